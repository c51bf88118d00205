/- Counts of accepted words: at most as many as words; plain Lean. -/
import Derived.Test.YtachgijdopfghaaCntS
import Derived.Test.YtachgijdopfghaaAutA
namespace Go.Proofs.Ytachgijdopfghaa
open Go.RowKit

theorem bwd_bd (a : Au) : ∀ k s, 0 ≤ bwd a k s ∧ bwd a k s ≤ 6 ^ k
  | 0, s => by rw [bwd]; split <;> simp
  | k + 1, s => by
    rw [bwd, backS]
    have := sumN_bounds (n := 6) (B := 6 ^ k) (f := fun x => if 0 ≤ at0 (rw0 a.next s) x then bwd a k (at0 (rw0 a.next s) x).toNat else 0) (fun i hi => by
      have := bwd_bd a k (at0 (rw0 a.next s) i).toNat
      split <;> omega)
    rw [Int.pow_succ]
    omega
theorem bwd_none (rows : List (List Int)) : ∀ k s, bwd ⟨rows, []⟩ k s = 0
  | 0, s => by simp [bwd]
  | k + 1, s => by
    rw [bwd, backS]
    have := sumN_bounds (n := 6) (B := 0) (f := fun x => if 0 ≤ at0 (rw0 rows s) x then bwd ⟨rows, []⟩ k (at0 (rw0 rows s) x).toNat else 0) (fun i hi => by
      have := bwd_none rows k (at0 (rw0 rows s) i).toNat
      split <;> omega)
    dsimp only at this ⊢
    omega
/-- What the law says. -/
theorem count_all {a : Au} {n : Int} (hk : 0 ≤ cwB a n) : (cwB a 0 == 1) = accB a [] ∧ (cwB a 0 == 0) = !accB a [] ∧ 0 ≤ n ∧ n ≤ 8 ∧ cwB a n ≤ 6 ^ n.toNat ∧ cwB ⟨a.next, []⟩ n = 0 := by
  have hv : (vAut a && inR n 0 8) = true := by
    cases h : (vAut a && inR n 0 8) with
    | true => rfl
    | false => rw [cwB, h] at hk; simp at hk
  simp only [Bool.and_eq_true] at hv
  have hn : 0 ≤ n ∧ n ≤ 8 := by
    have := hv.2
    simpa [inR] using this
  have e0 : cwB a 0 = if (0 : Int) ∈ a.final then 1 else 0 := by
    rw [cwB, hv.1]
    simp [inR, bwd]
  have ea : accB a [] = decide ((0 : Int) ∈ a.final) := by
    rw [accB, hv.1]
    simp [vWord, runS, allR]
  have ev : vAut ⟨a.next, []⟩ = true := by
    have := hv.1
    unfold vAut at this ⊢
    rw [Bool.and_eq_true] at this
    rw [Bool.and_eq_true]
    exact ⟨this.1, by simp [vFin, allR, anyB]⟩
  refine ⟨?_, ?_, hn.1, hn.2, ?_, ?_⟩
  · rw [e0, ea]; by_cases h : (0 : Int) ∈ a.final <;> simp [h]
  · rw [e0, ea]; by_cases h : (0 : Int) ∈ a.final <;> simp [h]
  · rw [cwB, hv.1, hv.2]; exact (bwd_bd a _ 0).2
  · rw [cwB, ev, hv.2]; exact bwd_none a.next _ 0
end Go.Proofs.Ytachgijdopfghaa
