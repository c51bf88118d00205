/- The walk of the law FnTasks: it returns true, and memory only grows. -/
import Derived.Test.YtjpdebgejlfeaaaDoorQ7
import Derived.Test.YtjpdebgejlfeaaaDoorLawOv2
import Derived.Test.YtjpdebgejlfeaaaDoorQ12
namespace Go.Proofs.YtjpdebgejlfeaaaDoor
open Go.RowKit

theorem tk0_take (ts : List Tk) {k i : Nat} (hk : k ≤ ts.length) (hi : i < k) : tk0 (ts.take k) i = tk0 ts i := by
  unfold tk0
  rw [getD_lt _ _ (by rw [List.length_take]; omega), getD_lt _ _ (by omega), List.getElem_take]
theorem STasks.take {w : World} {A : Option Addr} {n c : Nat} {ts : List Tk} (h : STasks w (.slice A n c) ts) (k : Nat) (hk : k ≤ ts.length) : STasks w (.slice A k c) (ts.take k) := by
  obtain ⟨A', c', e1, h2, h3, h4, h5⟩ := h
  injection e1 with e1 e2 e3
  subst e1; subst e3
  have hl : (ts.take k).length = k := by rw [List.length_take]; omega
  refine ⟨A, c, by rw [hl], by rw [hl]; omega, by rw [hl]; omega, fun i hi => ?_, fun hp => ?_⟩
  · rw [hl] at hi
    unfold tkS tkD tkM
    rw [tk0_take ts hk hi]
    exact h4 i (by omega)
  · rw [hl] at hp ⊢
    obtain ⟨b, off, e, hb, hc⟩ := h5 (by omega)
    refine ⟨b, off, e, hb, fun i hi => ?_⟩
    unfold tkS tkD tkM
    rw [tk0_take ts hk hi]
    exact hc i (by omega)
theorem vTks_vTk {ts : List Tk} (h : vTks ts = true) {k : Nat} (hk : k < ts.length) : vTk (tk0 ts k) = true := by
  cases hq : vTk (tk0 ts k) with
  | true => rfl
  | false => rw [vTks_false hk hq] at h; cases h
theorem vTks_len4 {ts : List Tk} (h : vTks ts = true) : 1 ≤ ts.length ∧ ts.length ≤ 4 := by
  unfold vTks at h
  rw [Bool.and_eq_true] at h
  have := h.2
  simp [inR] at this
  omega
theorem vTks_take {ts : List Tk} (h : vTks ts = true) {k : Nat} (h1 : 1 ≤ k) (hk : k ≤ ts.length) : vTks (ts.take k) = true := by
  have hl : (ts.take k).length = k := by rw [List.length_take]; omega
  have := vTks_len4 h
  rw [vTks_all (fun j hj => by rw [hl] at hj; rw [tk0_take ts hk hj]; exact vTks_vTk h (by omega)), hl]
  simp [inR]
  omega
theorem vMod_cum {ts : List Tk} {c : Int} (h : vTks ts = true) (hc : inR c 0 9 = true) : vMod (upS ts ts.length) [cumC ts c] = true := by
  have hn := vTks_len4 h
  have hb : ∀ i, i < ts.length → (0 ≤ tkS ts i ∧ tkS ts i ≤ 63) ∧ (1 ≤ tkD ts i ∧ tkD ts i ≤ 6) ∧ (0 ≤ tkM ts i ∧ tkM ts i ≤ 9) := fun i hi => by
    have := vTks_at h hi
    omega
  have e1 : inR (upS ts ts.length).length 1 4 = true := by rw [upS_len]; simp [inR]; omega
  have e2 : allR (upS ts ts.length) 0 63 = true := allR_of (fun j hj => by
    rw [upS_len] at hj
    rw [upS_at ts hj]
    have := (hb j hj).1
    simp [inR]; omega)
  have e3 : allR (upA ts ts.length) 0 9 = true := allR_of (fun j hj => by
    rw [upA_len] at hj
    obtain ⟨i, hi, e | e⟩ := upA_at ts hj
    · rw [e]; have := (hb i hi).2.1; simp [inR]; omega
    · rw [e]; have := (hb i hi).2.2; simp [inR]; omega)
  have e4 : vCon (cumC ts c) ts.length = true := by
    have f1 : inR (ts.length : Int) 1 4 = true := by simp [inR]; omega
    have f2 : inR ((upI ts.length).length : Int) 1 ts.length = true := by rw [upI_len]; simp [inR]; omega
    have f3 : allR (upI ts.length) 0 ((ts.length : Int) - 1) = true := allR_of (fun j hj => by
      rw [upI_len] at hj
      rw [upI_at hj]
      simp [inR]; omega)
    have f4 : dst (upI ts.length) = true := by
      have : ts.length = 1 ∨ ts.length = 2 ∨ ts.length = 3 ∨ ts.length = 4 := by omega
      rcases this with e | e | e | e <;> rw [e] <;> rfl
    have f5 : argsB (upA ts ts.length) (2 * ((upI ts.length).length : Int)) 0 9 = true := by
      rw [argsB, e3, upA_len, upI_len]
      simp
      omega
    have f6 : fitB 7 (upI ts.length) (upA ts ts.length) c [] = true := by
      show (argsB (upA ts ts.length) (2 * ((upI ts.length).length : Int)) 0 9 && (inR c 0 9 && ((([] : List (List Int)).length : Int) == 0))) = true
      rw [f5, hc]; rfl
    show (inR (ts.length : Int) 1 4 && (inR ((upI ts.length).length : Int) 1 ts.length && (allR (upI ts.length) 0 ((ts.length : Int) - 1) && (dst (upI ts.length) && fitB 7 (upI ts.length) (upA ts ts.length) c [])))) = true
    rw [f1, f2, f3, f4, f6]; rfl
  unfold vMod
  rw [e1, e2, upS_len]
  have e5 : anyB (fun i => !vCon (con0 [cumC ts c] i) ts.length) [cumC ts c].length = false := anyB_false.2 (fun i hi => by
    obtain rfl : i = 0 := by simp at hi; omega
    show (!vCon (cumC ts c) ts.length) = false
    rw [e4]; rfl)
  rw [e5]
  rfl
end Go.Proofs.YtjpdebgejlfeaaaDoor
