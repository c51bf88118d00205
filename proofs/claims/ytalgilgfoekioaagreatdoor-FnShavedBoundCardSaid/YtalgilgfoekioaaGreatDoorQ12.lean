/- The walks of the functions that decide whether tasks are valid. -/
import Derived.Test.YtalgilgfoekioaaGreatDoorUtlA
import Derived.Test.YtalgilgfoekioaaGreatDoorLwsA
namespace Go.Proofs.YtalgilgfoekioaaGreatDoor
open Go.RowKit

end Go.Proofs.YtalgilgfoekioaaGreatDoor
/- The walk of the comparison of two slices of tasks. -/
namespace Go.Proofs.YtalgilgfoekioaaGreatDoor
open Go.RowKit

def eqTk (a b : Tk) : Bool := decide (a.s = b.s) && decide (a.d = b.d) && decide (a.m = b.m)
theorem eqTk_self (a : Tk) : eqTk a a = true := by simp [eqTk]

end Go.Proofs.YtalgilgfoekioaaGreatDoor
/- The walks of the program's own ValidTasks and of the law FnExactValidTasks. -/
namespace Go.Proofs.YtalgilgfoekioaaGreatDoor
open Go.RowKit

theorem vTks_any (ts : List Tk) : vTks ts = (inR ts.length 1 4 && !anyB (fun i => !vTk (tk0 ts i)) ts.length) := by
  unfold vTks
  rw [Bool.and_comm]
  congr 1
  by_cases h : ∀ j, j < ts.length → vTk (tk0 ts j) = true
  · rw [all_tk vTk h, anyB_false.2 (fun i hi => by simp [h i hi])]; rfl
  · have h' : ∃ j, j < ts.length ∧ vTk (tk0 ts j) = false := by
      simpa using h
    obtain ⟨j, hj, hf⟩ := h'
    rw [anyB_iff.2 ⟨j, hj, by simp [hf]⟩]
    simp only [Bool.not_true, List.all_eq_false]
    exact ⟨_, tk0_mem hj, by simp [hf]⟩

end Go.Proofs.YtalgilgfoekioaaGreatDoor
