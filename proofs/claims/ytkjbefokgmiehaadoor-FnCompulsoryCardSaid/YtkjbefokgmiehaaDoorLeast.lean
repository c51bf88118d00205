/- The walks of least and most of a domain. -/
import Derived.Test.YtkjbefokgmiehaaDoorBits
namespace Go.Proofs.YtkjbefokgmiehaaDoor
open Go.RowKit

theorem TrailingZeros_any (d : Nat) (h1 : 1 ≤ d) (h2 : d ≤ 63) (w : World) (hT : TzTab w) :
    Calls Tryd.prog 25 #[.int .u64 d] w fun e w' => e = .returned (.int .i64 (lowB d : Nat)) ∧ w = w' := by
  have HT := hide hT; clear hT
  go_enter Tryd.func25, Tryd.ntmps25
  go_wp2_with (go_at_call 37; refine (TrailingZeros64_any d h1 h2 _ HT.out).mono ?_; rintro e w' ⟨rfl, rfl⟩)
  go_ret
  exact ⟨rfl, rfl⟩
theorem u64_wrap {d : Nat} (h : d ≤ 63) : IntKind.u64.wrap (d : Int) = d := by
  have : (d : Int) ≤ 63 := by omega
  simp [IntKind.wrap, IntKind.bits, IntKind.signed]
  omega
theorem least_any (d : Nat) (h1 : 1 ≤ d) (h2 : d ≤ 63) (w : World) (hT : TzTab w) :
    Calls Tryd.prog 13 #[.int .i64 d] w fun e w' => e = .returned (.int .i64 (lowB d : Nat)) ∧ w = w' := by
  have HT := hide hT; clear hT
  have hw := u64_wrap h2
  go_enter Tryd.func13, Tryd.ntmps13
  go_wp2_with (go_at_call 25; refine (TrailingZeros_any d h1 h2 _ HT.out).mono ?_; rintro e w' ⟨rfl, rfl⟩)
  go_ret
  exact ⟨rfl, rfl⟩
theorem topB_lt {d : Nat} (h2 : d ≤ 63) : topB d < 6 := by
  unfold topB
  by_cases h : d = 0
  · subst h; decide
  · exact (Nat.log2_lt h).2 (by omega)
theorem most_any (d : Nat) (h1 : 1 ≤ d) (h2 : d ≤ 63) (w : World) :
    Calls Tryd.prog 12 #[.int .i64 d] w fun e w' => e = .returned (.int .i64 (topB d : Nat)) ∧ w = w' := by
  have hw := u64_wrap h2
  have ht := topB_lt h2
  have hm : ((topB d + 1 : Nat) : Int) = (topB d : Int) + 1 := by omega
  go_enter Tryd.func12, Tryd.ntmps12
  go_wp2_with (go_at_call 24; refine (Len_any d h1 h2 _).mono ?_; rintro e w' ⟨rfl, rfl⟩; rw [hm])
  go_ret
  exact ⟨ret_i (by omega), rfl⟩
end Go.Proofs.YtkjbefokgmiehaaDoor
