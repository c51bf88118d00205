/- copied of the program: a copy of ints in new memory. startsOf; slices.Max. -/
import Derived.Test.YtalgilgfoekioaaGreatDoorCpA
import Derived.Test.YtalgilgfoekioaaGreatDoorMksp
import Derived.WalkLawsBesides
namespace Go.Proofs.YtalgilgfoekioaaGreatDoor
open Go.RowKit

def startsL (ts : List Tk) : List Int := ts.map (·.s)
theorem startsL_at (ts : List Tk) {i : Nat} (hi : i < ts.length) : at0 (startsL ts) i = tkS ts i := by
  unfold at0 startsL tkS tk0
  rw [getD_lt _ _ (by simpa using hi), getD_lt _ _ hi, List.getElem_map]
/-- The greatest of the first k numbers. -/
def mxK (xs : List Int) : Nat → Int
  | 0 => at0 xs 0
  | k + 1 => max (mxK xs k) (at0 xs (k + 1))
def mxL (xs : List Int) : Int := mxK xs (xs.length - 1)
theorem mxK_le (xs : List Int) (c : Int) : ∀ k, mxK xs k ≤ c ↔ ∀ i, i ≤ k → at0 xs i ≤ c
  | 0 => by
    refine ⟨fun h i hi => ?_, fun h => h 0 (Nat.le_refl _)⟩
    obtain rfl : i = 0 := by omega
    exact h
  | k + 1 => by
    show max _ _ ≤ c ↔ _
    rw [Int.max_le, mxK_le xs c k]
    refine ⟨fun h i hi => ?_, fun h => ⟨fun i hi => h i (by omega), h _ (Nat.le_refl _)⟩⟩
    by_cases e : i = k + 1
    · subst e; exact h.2
    · exact h.1 i (by omega)
theorem mxK_if (xs : List Int) (k : Nat) : mxK xs (k + 1) = if mxK xs k < at0 xs (k + 1) then at0 xs (k + 1) else mxK xs k := by
  rw [mxK]; omega
end Go.Proofs.YtalgilgfoekioaaGreatDoor
