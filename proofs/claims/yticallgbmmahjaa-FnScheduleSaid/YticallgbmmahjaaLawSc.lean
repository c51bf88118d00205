/- The walk of the law FnExactSchedule: it returns true, and memory only grows. -/
import Derived.Test.YticallgbmmahjaaQ8
import Derived.Test.YticallgbmmahjaaLwsA
import Derived.Test.YticallgbmmahjaaQ6
namespace Go.Proofs.Yticallgbmmahjaa
open Go.RowKit

theorem schX_len (ts : List Tk) (c : Int) : ((schX ts c).getD []).length ≤ 4 ∧ ∀ i, i < ((schX ts c).getD []).length → I64 (at0 ((schX ts c).getD []) i) := by
  unfold schX
  by_cases h : (vTks ts && inR c 0 9) = true
  · rw [if_pos h]
    cases ho : schO ts c with
    | none => exact ⟨by simp, fun i hi => absurd hi (by simp)⟩
    | some b =>
      rw [Bool.and_eq_true] at h
      have h1 : bestF (fun x => mk ts x ts.length) ((tups (startsL ts)).filter (feas ts c)) = some b := ho
      have h2 : b ∈ tups (startsL ts) := by
        rcases bestF_mem _ _ _ _ h1 with h | h
        · cases h
        · exact (List.mem_filter.1 h).1
      have h3 := tups_len _ _ h2
      rw [startsL_len] at h3
      have h4 := (vTks_len h.1).2
      refine ⟨by simpa using (by omega : b.length ≤ 4), fun i hi => ?_⟩
      have := tups_vals _ _ h2 _ (at0_mem (xs := b) (by simpa using hi))
      show I64 (at0 b i)
      unfold I64; omega
  · rw [if_neg h]; exact ⟨by simp, fun i hi => absurd hi (by simp)⟩
end Go.Proofs.Yticallgbmmahjaa
