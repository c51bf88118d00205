/- DomainValues of the program. -/
import Derived.Test.YtkjbefokgmiehaaDoorDom
import Derived.Test.YtkjbefokgmiehaaDoorValid1
namespace Go.Proofs.YtkjbefokgmiehaaDoor
open Go.RowKit

set_option maxHeartbeats 1000000 in
theorem DomainValuesI_any (d : Int) (w : World) (hd : vDom d = true) : Calls Tryd.prog 8 #[.int .i64 d] w (OwnRes (domL d) w) := by
  have h2 : 0 ≤ d ∧ d ≤ 63 := by simpa [vDom, inR] using hd
  have HVV := hide hd
  clear hd
  go_enter Tryd.func8, Tryd.ntmps8
  go_wp2_with (go_at_call 18; refine (ValidDomain_any _ _).mono ?_; rintro e w' ⟨rfl, rfl⟩; rw [HVV.out])
  refine (valuesOf_any d _ h2.1 (by omega)).mono ?_
  rintro e w2 ⟨A5, c5, b5, m5, f5, rfl, q1, q2, q3, q4, q5⟩
  have HE := hide (show OwnRes (domL d) w (.returned (.slice A5 (domL d).length c5)) w2 from ⟨A5, c5, b5, m5, f5, rfl, q1, q2, q3, q4, q5⟩)
  clear q1 q2 q3 q4 q5
  go_wp2
  go_ret
  exact HE.out
end Go.Proofs.YtkjbefokgmiehaaDoor
