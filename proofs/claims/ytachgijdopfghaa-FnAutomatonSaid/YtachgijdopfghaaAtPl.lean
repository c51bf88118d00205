/- An automaton is a regular constraint: plain Lean. -/
import Derived.Test.YtachgijdopfghaaIsSl
import Derived.Test.YtachgijdopfghaaAutA
namespace Go.Proofs.Ytachgijdopfghaa
open Go.RowKit

/-- The first n numbers. -/
def uptoL (n : Nat) : List Int := (List.range n).map (fun i : Nat => (i : Int))
theorem uptoL_len (n : Nat) : (uptoL n).length = n := by simp [uptoL]
theorem uptoL_at {n i : Nat} (hi : i < n) : at0 (uptoL n) i = i := by
  unfold at0
  rw [getD_lt _ _ (by simpa [uptoL] using hi)]
  simp [uptoL]
theorem uptoL_succ (n : Nat) : uptoL (n + 1) = uptoL n ++ [(n : Int)] := by simp [uptoL, List.range_succ]
theorem wordL_uptoL (xs : List Int) : wordL (uptoL xs.length) xs = xs := by
  apply List.ext_getElem (by simp [wordL, uptoL])
  intro i h1 h2
  simp [wordL, uptoL, at0]
  rw [List.getElem?_eq_getElem h2]; rfl
theorem runA_runS {a : Au} {xs : List Int} (hv : vAut a = true) (hx : allR xs 0 5 = true) : ∀ k, k ≤ xs.length → runA a.next xs k = runS a 0 xs k ∧ -1 ≤ runS a 0 xs k ∧ runS a 0 xs k < a.next.length
  | 0, _ => by
    have hr : vRows a.next 6 (-1) (a.next.length - 1) = true := by unfold vAut at hv; simp only [Bool.and_eq_true] at hv; exact hv.1
    have := vRows_len hr
    exact ⟨rfl, by simp [runS], by simp [runS]; omega⟩
  | k + 1, h => by
    obtain ⟨e, h1, h2⟩ := runA_runS hv hx k (by omega)
    have hr : vRows a.next 6 (-1) (a.next.length - 1) = true := by unfold vAut at hv; simp only [Bool.and_eq_true] at hv; exact hv.1
    rw [runA, runS, e]
    by_cases h0 : 0 ≤ runS a 0 xs k
    · rw [if_pos h0, if_neg (by omega)]
      obtain ⟨s, hs⟩ : ∃ s : Nat, runS a 0 xs k = s := ⟨(runS a 0 xs k).toNat, by omega⟩
      rw [hs] at h2 ⊢
      rw [Int.toNat_natCast]
      obtain ⟨q1, q2⟩ := vRows_at hr (i := s) (by omega)
      have hxk := allR_at hx (k := k) (by omega)
      have := allR_at q2 (k := (at0 xs k).toNat) (by omega)
      exact ⟨rfl, by omega, by omega⟩
    · rw [if_neg h0, if_pos (by omega)]
      exact ⟨by omega, by omega, by omega⟩
theorem hasI_dec9 (xs : List Int) (x : Int) : hasI xs x = decide (x ∈ xs) := by
  unfold hasI
  rw [Bool.eq_iff_iff, anyB_iff, decide_eq_true_iff]
  constructor
  · rintro ⟨i, hi, h⟩
    rw [beq_iff_eq] at h
    rw [h]; exact at0_mem hi
  · intro h
    obtain ⟨i, hi, e⟩ := List.mem_iff_getElem.1 h
    exact ⟨i, hi, by unfold at0; rw [getD_lt _ _ hi, e]; simp⟩
theorem reg_law {a : Au} {xs ds : List Int} (hv : vAut a = true) (h4 : xs.length ≤ 4) (hr : allR xs 0 5 = true) (hd : ds.length = xs.length) (h63 : ∀ i, i < ds.length → at0 ds i = 63)
    (hm : vMod ds [⟨8, uptoL xs.length, a.final, 0, a.next⟩] = true) : solB ds [⟨8, uptoL xs.length, a.final, 0, a.next⟩] xs = accB a xs := by
  have hmem : memB ds xs = true := by
    unfold memB
    rw [Bool.not_eq_true', anyB_false]
    intro i hi
    rw [h63 i hi]
    have := allR_at hr (k := i) (by omega)
    obtain ⟨x, hx⟩ : ∃ x : Nat, at0 xs i = x := ⟨(at0 xs i).toNat, by omega⟩
    rw [hx, Int.toNat_natCast]
    obtain rfl | rfl | rfl | rfl | rfl | rfl : x = 0 ∨ x = 1 ∨ x = 2 ∨ x = 3 ∨ x = 4 ∨ x = 5 := by omega
    all_goals rfl
  have hok : okAll [⟨8, uptoL xs.length, a.final, 0, a.next⟩] xs = acceptB a.next a.final xs := by
    have h1 : ∀ p : Nat → Bool, anyB p 1 = p 0 := fun p => by simp [anyB, List.range_succ]
    unfold okAll
    rw [show List.length [(⟨8, uptoL xs.length, a.final, 0, a.next⟩ : Con)] = 1 from rfl, h1]
    show (!!satB ⟨8, uptoL xs.length, a.final, 0, a.next⟩ (wordL (uptoL xs.length) xs)) = _
    rw [wordL_uptoL, Bool.not_not]
    rfl
  obtain ⟨e, e1, e2⟩ := runA_runS hv hr xs.length (Nat.le_refl _)
  have hacc : acceptB a.next a.final xs = decide (runS a 0 xs xs.length ∈ a.final) := by
    unfold acceptB
    rw [e]
    have hf : vFin a.final (a.next.length - 1) = true := by unfold vAut at hv; simp only [Bool.and_eq_true] at hv; exact hv.2
    by_cases h0 : 0 ≤ runS a 0 xs xs.length
    · rw [decide_eq_true h0, Bool.true_and]
      exact hasI_dec9 _ _
    · rw [decide_eq_false h0, Bool.false_and]
      symm
      rw [decide_eq_false_iff_not]
      intro hin
      unfold vFin at hf
      simp only [Bool.and_eq_true] at hf
      have := List.all_eq_true.1 hf.1 _ hin
      simp [inR] at this
      omega
  rw [solB, hm, hr, hmem, hok, hacc, accB, hv, vWord, hr]
  simp [hd]
  omega
end Go.Proofs.Ytachgijdopfghaa
