/- The walks of AutomatonAccepts, in the reference and in the program. -/
import Derived.Test.YtdiedghaoleblaaMach
namespace Go.Proofs.Ytdiedghaoleblaa
open Go.RowKit

/-- Where a word leads in the reference, in the program. -/
def runS (a : Au) (s : Int) (xs : List Int) : Nat → Int
  | 0 => s
  | k + 1 => if 0 ≤ runS a s xs k then at0 (rw0 a.next (runS a s xs k).toNat) (at0 xs k).toNat else runS a s xs k
def runM (a : Au) (s : Int) (xs : List Int) : Nat → Int
  | 0 => s
  | k + 1 => at0 (rw0 (mRows a) (runM a s xs k).toNat) (at0 xs k).toNat
def vWord (xs : List Int) : Bool := decide ((xs.length : Int) ≤ 8) && allR xs 0 5
def accB (a : Au) (xs : List Int) : Bool := vAut a && vWord xs && decide (runS a 0 xs xs.length ∈ a.final)
theorem runS_stop (a : Au) (s : Int) (xs : List Int) : ∀ {j k : Nat}, j ≤ k → runS a s xs j < 0 → runS a s xs k = runS a s xs j := by
  intro j k hjk hneg
  induction k with
  | zero => rw [show j = 0 by omega]
  | succ k ih =>
    rcases Nat.lt_or_ge k j with h | h
    · rw [show j = k + 1 by omega]
    · rw [runS, ih h, if_neg (by omega)]
theorem vAut_row {a : Au} (hv : vAut a = true) {i : Nat} (hi : i < a.next.length) : (rw0 a.next i).length = 6 ∧ allR (rw0 a.next i) (-1) (a.next.length - 1) = true := by
  simp only [vAut, Bool.and_eq_true] at hv
  have := vRows_at hv.1 hi
  exact ⟨by omega, this.2⟩
theorem vAut_len {a : Au} (hv : vAut a = true) : 1 ≤ a.next.length ∧ a.next.length ≤ 8 := by
  simp only [vAut, Bool.and_eq_true] at hv
  exact vRows_len hv.1
theorem runS_in {a : Au} (hv : vAut a = true) {s : Int} (hs : -1 ≤ s ∧ s < a.next.length) {xs : List Int} (hx : allR xs 0 5 = true) : ∀ k, k ≤ xs.length → -1 ≤ runS a s xs k ∧ runS a s xs k < a.next.length := by
  intro k
  induction k with
  | zero => exact fun _ => hs
  | succ k ih =>
    intro hk
    obtain ⟨h1, h2⟩ := ih (by omega)
    rw [runS]
    split
    · rename_i h0
      obtain ⟨r1, r2⟩ := vAut_row hv (i := (runS a s xs k).toNat) (by omega)
      obtain ⟨x1, x2⟩ := allR_at hx (k := k) (by omega)
      have := allR_at r2 (k := (at0 xs k).toNat) (by omega)
      omega
    · omega
theorem mRows_len (a : Au) : (mRows a).length = a.next.length + 1 := by simp [mRows]
theorem mRows_at {a : Au} {i : Nat} (hi : i < a.next.length) : rw0 (mRows a) i = mRow a.next.length (rw0 a.next i) := by
  unfold rw0 mRows
  rw [List.getD_eq_getElem?_getD, List.getElem?_append_left (by simpa using hi), List.getElem?_map, List.getElem?_eq_getElem hi, getD_lt _ _ hi]; rfl
theorem mRows_last (a : Au) : rw0 (mRows a) a.next.length = List.replicate 6 (a.next.length : Int) := by
  unfold rw0 mRows
  rw [List.getD_eq_getElem?_getD, List.getElem?_append_right (by simp)]; simp
theorem mRows_row {a : Au} (hv : vAut a = true) {i : Nat} (hi : i < a.next.length + 1) : (rw0 (mRows a) i).length = 6 ∧ ∀ j, j < 6 → 0 ≤ at0 (rw0 (mRows a) i) j ∧ at0 (rw0 (mRows a) i) j ≤ a.next.length := by
  by_cases h : i < a.next.length
  · obtain ⟨r1, r2⟩ := vAut_row hv h
    rw [mRows_at h]
    refine ⟨by simpa [mRow] using r1, fun j hj => ?_⟩
    rw [mRow_at _ _ (by omega)]
    have := allR_at r2 (k := j) (by omega)
    unfold mTo
    split <;> omega
  · rw [show i = a.next.length by omega, mRows_last]
    refine ⟨by simp, fun j hj => ?_⟩
    unfold at0
    rw [getD_lt _ _ (by simpa using hj), List.getElem_replicate]
    omega
theorem at0_replicate (n : Nat) (x : Int) {j : Nat} (hj : j < n) : at0 (List.replicate n x) j = x := by
  unfold at0
  rw [getD_lt _ _ (by simpa using hj), List.getElem_replicate]
theorem runM_eq {a : Au} (hv : vAut a = true) {s : Int} (hs : -1 ≤ s ∧ s < a.next.length) {xs : List Int} (hx : allR xs 0 5 = true) : ∀ k, k ≤ xs.length → runM a (mTo a.next.length s) xs k = mTo a.next.length (runS a s xs k) := by
  intro k
  induction k with
  | zero => exact fun _ => rfl
  | succ k ih =>
    intro hk
    obtain ⟨h1, h2⟩ := runS_in hv hs hx k (by omega)
    obtain ⟨x1, x2⟩ := allR_at hx (k := k) (by omega)
    rw [runM, ih (by omega), runS]
    by_cases h0 : 0 ≤ runS a s xs k
    · rw [if_pos h0, show mTo a.next.length (runS a s xs k) = runS a s xs k from if_neg (by omega), mRows_at (by omega), mRow_at _ _ (by have := (vAut_row hv (i := (runS a s xs k).toNat) (by omega)).1; omega)]
    · rw [if_neg h0, show mTo a.next.length (runS a s xs k) = (a.next.length : Int) from if_pos (by omega), Int.toNat_natCast, mRows_last, at0_replicate _ _ (by omega)]
theorem accM {a : Au} (hv : vAut a = true) {xs : List Int} (hx : allR xs 0 5 = true) : decide (runM a 0 xs xs.length ∈ a.final) = decide (runS a 0 xs xs.length ∈ a.final) := by
  have hl := vAut_len hv
  have h1 := runM_eq hv (s := 0) (by omega) hx xs.length (Nat.le_refl _)
  rw [show mTo a.next.length 0 = 0 from rfl] at h1
  rw [h1]
  obtain ⟨h2, h3⟩ := runS_in hv (s := 0) (by omega) hx xs.length (Nat.le_refl _)
  have hf : allR a.final 0 (a.next.length - 1) = true := by simp only [vAut, vFin, Bool.and_eq_true] at hv; exact hv.2.1
  unfold mTo
  split
  · rename_i hneg
    have n1 : ¬ (a.next.length : Int) ∈ a.final := fun hm => by have := List.all_eq_true.1 hf _ hm; simp [inR] at this; omega
    have n2 : ¬ runS a 0 xs xs.length ∈ a.final := fun hm => by have := List.all_eq_true.1 hf _ hm; simp [inR] at this; omega
    simp [n1, n2]
  · rfl

theorem containsInt_any (v : Value) (xs : List Int) (n : Int) (w : World) (hS : SInts w v xs) :
    Calls Try.prog 54 #[v, .int .i64 n] w fun e w' => e = .returned (.bool (decide (n ∈ xs))) ∧ w = w' := by
  have hS0 := hide hS
  obtain ⟨A, cp, rfl, hl, hlen⟩ := hS.form
  clear hS
  go_enter Try.func54, Try.ntmps54
  go_wp2
  go_loop [5] (fun i => ∃ k : Nat, k ≤ xs.length ∧ i = .int .i64 k ∧ (∀ j, j < k → at0 xs j ≠ n)) (fun i => xs.length - (intOf i).toNat)
  case atStart => exact ⟨0, Nat.zero_le _, rfl, fun j hj => absurd hj (by omega)⟩
  case round =>
    obtain ⟨k, hk, rfl, hv⟩ := hrel
    have Hv := hide hv; clear hv
    by_cases hlt : k < xs.length
    · obtain ⟨b, off, rfl, hbl, f1⟩ := hS0.out.at_ hlt
      by_cases he : at0 xs k = n
      · have he' : (at0 xs k == n) = true := by simpa using he
        have HE := hide he; clear he
        go_wp2
        go_ret
        exact ⟨ret_b (decide_eq_true (HE.out ▸ at0_mem hlt)).symm, rfl⟩
      · have he' : (at0 xs k == n) = false := by simpa using he
        have HE := hide he; clear he
        go_wp2
        go_round
        case rel => exact ⟨k + 1, by omega, by go_num, upto_succ Hv.out HE.out⟩
        case measure => simp [intOf]; omega
    · have hkl : k = xs.length := by omega
      subst hkl
      go_wp2
      go_ret
      refine ⟨ret_b (decide_eq_false fun hm => ?_).symm, rfl⟩
      obtain ⟨i, hi, he⟩ := List.mem_iff_getElem.1 hm
      exact Hv.out i hi (by rw [at0, getD_lt _ _ hi]; exact he)
theorem isFinal_any (vn vf : Value) (a : Au) (n : Int) (w : World) (hN : SRows w vn a.next) (hF : SInts w vf a.final) :
    Calls Try.prog 78 #[.agg #[vn, vf], .int .i64 n] w (Ret (.bool (decide (n ∈ a.final))) w) := by
  obtain ⟨A, c, rfl, -, -⟩ := hN.form
  obtain ⟨A', c', rfl, -, -⟩ := hF.form
  have hx0 := (Ext.refl w).alloc (.cells #[.slice A a.next.length c, .slice A' a.final.length c'] 26)
  go_enter Try.func78, Try.ntmps78
  go_wp2_with (go_at_call 54; refine (containsInt_any _ a.final _ _ (hF.ext hx0)).mono ?_; rintro e w' ⟨rfl, rfl⟩)
  go_ret
  exact Ret.mk rfl hx0
end Go.Proofs.Ytdiedghaoleblaa
