/- The walk of CompulsoryPart in the reference. -/
import Derived.Test.YtalgilgfoekioaaGreatDoorCompI
import Derived.Test.YtalgilgfoekioaaGreatDoorDom
import Derived.Test.YtalgilgfoekioaaGreatDoorTail
import Derived.Test.YtalgilgfoekioaaGreatDoorQ12
namespace Go.Proofs.YtalgilgfoekioaaGreatDoor
open Go.RowKit

theorem domL_ends {n : Nat} (h1 : 1 ≤ n) (h2 : n ≤ 63) : 0 < (domL n).length ∧ at0 (domL n) 0 = lowB n ∧ at0 (domL n) ((domL n).length - 1) = topB n ∧ lowB n < 6 ∧ topB n < 6 := by
  rcases dom_cases h1 h2 with rfl | rfl | rfl | rfl | rfl | rfl | rfl | rfl | rfl | rfl | rfl | rfl | rfl | rfl | rfl | rfl | rfl | rfl | rfl | rfl | rfl | rfl | rfl | rfl | rfl | rfl | rfl | rfl | rfl | rfl | rfl | rfl | rfl | rfl | rfl | rfl | rfl | rfl | rfl | rfl | rfl | rfl | rfl | rfl | rfl | rfl | rfl | rfl | rfl | rfl | rfl | rfl | rfl | rfl | rfl | rfl | rfl | rfl | rfl | rfl | rfl | rfl | rfl <;> decide
/-- The result; a definition, else the walk parts on its 'if'. -/
def compP (n : Nat) (d : Int) : Int × Int := if (topB n : Int) < lowB n + d then ((topB n : Int), (lowB n : Int) + d) else (0, 0)
end Go.Proofs.YtalgilgfoekioaaGreatDoor
