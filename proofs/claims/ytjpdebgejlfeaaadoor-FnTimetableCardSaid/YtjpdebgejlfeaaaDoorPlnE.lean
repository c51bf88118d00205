/- Energy, in plain numbers: some starts of the domains. -/
import Derived.Test.YtjpdebgejlfeaaaDoorPlnS
namespace Go.Proofs.YtjpdebgejlfeaaaDoor
open Go.RowKit

theorem domL_pos {d : Int} (h1 : 1 ≤ d) (h2 : d ≤ 63) : 0 < (domL d).length := by
  have h : ∀ n : Fin 64, 1 ≤ n.val → 0 < (domL (n.val : Int)).length := by decide
  obtain ⟨n, rfl⟩ : ∃ n : Nat, d = n := ⟨d.toNat, by omega⟩
  exact h ⟨n, by omega⟩ (by show 1 ≤ n; omega)
/-- The first k starts. -/
def stL (ts : List Tk) (L k : Nat) : List Int := (List.range k).map fun i => at0 (domL (tkS ts i)) ((L + i) % (domL (tkS ts i)).length)
theorem stL_len (ts : List Tk) (L k : Nat) : (stL ts L k).length = k := by simp [stL]
theorem stL_at (ts : List Tk) (L k : Nat) {i : Nat} (hi : i < k) : at0 (stL ts L k) i = at0 (domL (tkS ts i)) ((L + i) % (domL (tkS ts i)).length) := by
  unfold at0 stL
  rw [getD_lt _ _ (by simpa using hi)]
  simp [at0]
theorem stL_succ (ts : List Tk) (L k : Nat) : stL ts L (k + 1) = stL ts L k ++ [at0 (domL (tkS ts k)) ((L + k) % (domL (tkS ts k)).length)] := by
  unfold stL
  rw [List.range_succ, List.map_append]; rfl
theorem tk_pos {ts : List Tk} (hv : vTks ts = true) {i : Nat} (hi : i < ts.length) : 0 < (domL (tkS ts i)).length := by
  have := vTks_at hv hi
  exact domL_pos (by omega) this.2.1
theorem stL_bd {ts : List Tk} (hv : vTks ts = true) (L : Nat) {k i : Nat} (hi : i < k) (hk : k ≤ ts.length) : 0 ≤ at0 (stL ts L k) i ∧ at0 (stL ts L k) i ≤ 5 := by
  rw [stL_at ts L k hi]
  exact domL_bd _ (Nat.mod_lt _ (tk_pos hv (by omega)))
theorem stL_ok {ts : List Tk} (hv : vTks ts = true) (L : Nat) : okTS ts (stL ts L ts.length) = true := by
  refine okTS_iff.2 ⟨hv, stL_len .., allR_of fun j hj => ?_⟩
  rw [stL_len] at hj
  have := stL_bd hv L hj (Nat.le_refl _)
  simpa [inR] using this
theorem en_stL {ts : List Tk} (hv : vTks ts = true) (L : Nat) (l h : Int) : ∀ k, k ≤ ts.length → en ts l h k ≤ enx ts (stL ts L ts.length) l h k
  | 0, _ => Int.le_refl _
  | k + 1, hk => by
    have h1 := en_stL hv L l h k (by omega)
    have h2 := lk_le ts k l h ((L + k) % (domL (tkS ts k)).length) (domL (tkS ts k)).length (Nat.mod_lt _ (tk_pos hv (by omega)))
    rw [← stL_at ts L ts.length (by omega)] at h2
    have h3 := (vTks_at hv (show k < ts.length by omega)).2.2.2.2.2
    have h4 : lkA ts k l h * tkM ts k ≤ ov (at0 (stL ts L ts.length) k) (at0 (stL ts L ts.length) k + tkD ts k) l h * tkM ts k := Int.mul_le_mul_of_nonneg_right h2 h3.1
    rw [en, enx]
    omega
/-- All demands times durations. -/
def alE (ts : List Tk) : Nat → Int
  | 0 => 0
  | k + 1 => alE ts k + tkM ts k * tkD ts k
theorem alE_bd {ts : List Tk} (hv : vTks ts = true) : ∀ k, k ≤ ts.length → 0 ≤ alE ts k ∧ alE ts k ≤ 54 * k
  | 0, _ => by simp [alE]
  | k + 1, hk => by
    have h1 := alE_bd hv k (by omega)
    have h2 := vTks_at hv (show k < ts.length by omega)
    have h3 := mul_bd (a := tkD ts k) (b := tkM ts k) (by omega) (by omega) (by omega) (by omega)
    rw [alE, Int.mul_comm]
    omega
theorem lk_full {ts : List Tk} (hv : vTks ts = true) {i : Nat} (hi : i < ts.length) : ∀ j, j ≤ (domL (tkS ts i)).length → lk ts i 0 11 j = tkD ts i
  | 0, _ => rfl
  | j + 1, hj => by
    have h1 := domL_bd (tkS ts i) (i := j) (by omega)
    have h2 := vTks_at hv hi
    rw [lk, lk_full hv hi j (by omega)]
    unfold ov
    omega
theorem en_full {ts : List Tk} (hv : vTks ts = true) : ∀ k, k ≤ ts.length → en ts 0 11 k = alE ts k
  | 0, _ => rfl
  | k + 1, hk => by
    rw [en, alE, en_full hv k (by omega), lkA, lk_full hv (by omega) _ (Nat.le_refl _), Int.mul_comm]
theorem sm_us_bd {ts : List Tk} {xs : List Int} (h : okTS ts xs = true) (a : Nat) : ∀ n, 0 ≤ sm (us ts xs ts.length) a n ∧ sm (us ts xs ts.length) a n ≤ 36 * n
  | 0 => by simp [sm]
  | n + 1 => by
    have h1 := sm_us_bd h a n
    have h2 := us_bd h (a + n) ts.length (Nat.le_refl _)
    have h4 := (vTks_len (okTS_iff.1 h).1).2
    rw [sm]
    omega
end Go.Proofs.YtjpdebgejlfeaaaDoor
