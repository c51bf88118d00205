/- The minimal form of a machine, in plain Lean: a search through the live classes. -/
import Derived.Test.YtdiedghaoleblaaMinP
import Derived.Test.YtdiedghaoleblaaUtlA
namespace Go.Proofs.Ytdiedghaoleblaa
open Go.RowKit

/-- Where x first stands in the list, from place i on; -1 if it does not. -/
def plc (xs : List Int) (x : Int) : Int := fidx (fun i => x == at0 xs i) xs.length
/-- The classes met when the first v successors of s have been looked at. -/
def pMet (m : Mc) (L : Nat → Bool) (C : Nat → Nat) (met : List Int) (s : Nat) : Nat → List Int
  | 0 => met
  | v + 1 =>
    let met' := pMet m L C met s v
    if L (mT m s v) && !met'.contains (C (mT m s v) : Int) then met' ++ [(C (mT m s v) : Int)] else met'
/-- The new row's v-th number. -/
def pRow (m : Mc) (L : Nat → Bool) (C : Nat → Nat) (met : List Int) (s v : Nat) : Int :=
  if L (mT m s v) then plc (pMet m L C met s (v + 1)) (C (mT m s v)) else -1
def pRowL (m : Mc) (L : Nat → Bool) (C : Nat → Nat) (met : List Int) (s : Nat) : List Int := (List.range 6).map (pRow m L C met s)
structure MSt where
  met : List Int
  rows : List (List Int)
  fins : List Int
/-- What the search knows when i classes have been looked at. -/
def mSt (m : Mc) (L : Nat → Bool) (C : Nat → Nat) : Nat → MSt
  | 0 => ⟨[(C 0 : Int)], [], []⟩
  | i + 1 =>
    let S := mSt m L C i
    if i < S.met.length then
      let s := (at0 S.met i).toNat
      ⟨pMet m L C S.met s 6, S.rows ++ [pRowL m L C S.met s], if mF m s then S.fins ++ [(i : Int)] else S.fins⟩
    else S
theorem pMet_congr {m : Mc} (hm : MOk m) {L L' : Nat → Bool} {C C' : Nat → Nat} (hL : ∀ x, x < m.nx.length → L x = L' x) (hC : agr m.nx.length C C') (met : List Int) {s : Nat} (hs : s < m.nx.length) :
    ∀ v, v ≤ 6 → pMet m L C met s v = pMet m L' C' met s v
  | 0, _ => rfl
  | v + 1, hv => by
    have hx := hm.lt hs (show v < 6 by omega)
    rw [pMet, pMet, pMet_congr hm hL hC met hs v (by omega), hL _ hx, hC _ hx]
/-- The list of classes: no class twice, each below n; the first is that of state 0. -/
structure MetOk (n : Nat) (xs : List Int) : Prop where
  nd : xs.Nodup
  rg : ∀ x ∈ xs, 0 ≤ x ∧ x < n
theorem MetOk.at_ {n : Nat} {xs : List Int} (h : MetOk n xs) {i : Nat} (hi : i < xs.length) : 0 ≤ at0 xs i ∧ at0 xs i < n := h.rg _ (at0_mem hi)
theorem MetOk.snoc {n : Nat} {xs : List Int} (h : MetOk n xs) {x : Int} (hx : 0 ≤ x ∧ x < n) (hn : xs.contains x = false) : MetOk n (xs ++ [x]) := by
  refine ⟨?_, fun y hy => ?_⟩
  · rw [List.nodup_append]
    refine ⟨h.nd, by simp, fun a ha b hb => ?_⟩
    rw [List.mem_singleton] at hb
    subst hb
    intro e; subst e
    have : xs.contains a = true := by simpa using ha
    rw [hn] at this; cases this
  · rcases List.mem_append.1 hy with hy | hy
    · exact h.rg y hy
    · rw [List.mem_singleton] at hy; subst hy; exact hx
theorem nodup_lt : ∀ (n : Nat) (l : List Int), l.Nodup → (∀ x ∈ l, 0 ≤ x ∧ x < (n : Int)) → l.length ≤ n
  | 0, l, _, h => by
    cases l with
    | nil => simp
    | cons a l => have := h a (by simp); omega
  | n + 1, l, hn, h => by
    by_cases hm : (n : Int) ∈ l
    · have h1 := nodup_lt n (l.erase n) (hn.erase _) (fun x hx => by
        have := (hn.mem_erase_iff).1 hx
        have h2 := h x this.2
        have h3 := this.1
        omega)
      rw [List.length_erase_of_mem hm] at h1
      omega
    · have := nodup_lt n l hn (fun x hx => by
        have h2 := h x hx
        have h3 : x ≠ n := fun e => hm (e ▸ hx)
        omega)
      omega
theorem MetOk.len {n : Nat} {xs : List Int} (h : MetOk n xs) : xs.length ≤ n := nodup_lt n xs h.nd h.rg
theorem pMet_ok {m : Mc} (hm : MOk m) (L : Nat → Bool) {C : Nat → Nat} (hC : ∀ x, C x ≤ x) {met : List Int} (h : MetOk m.nx.length met) {s : Nat} (hs : s < m.nx.length) :
    ∀ v, v ≤ 6 → MetOk m.nx.length (pMet m L C met s v)
  | 0, _ => h
  | v + 1, hv => by
    have ih := pMet_ok hm L hC h hs v (by omega)
    have hx := hm.lt hs (show v < 6 by omega)
    have := hC (mT m s v)
    rw [pMet]
    split
    · rename_i hc
      simp only [Bool.and_eq_true, Bool.not_eq_true'] at hc
      exact ih.snoc (by omega) hc.2
    · exact ih
theorem pMet_pre (m : Mc) (L : Nat → Bool) (C : Nat → Nat) (met : List Int) (s : Nat) : ∀ v, ∃ ys, pMet m L C met s v = met ++ ys
  | 0 => ⟨[], by simp [pMet]⟩
  | v + 1 => by
    obtain ⟨ys, e⟩ := pMet_pre m L C met s v
    rw [pMet]
    split
    · exact ⟨ys ++ [(C (mT m s v) : Int)], by rw [e, List.append_assoc]⟩
    · exact ⟨ys, e⟩
theorem mSt_ok {m : Mc} (hm : MOk m) (L : Nat → Bool) {C : Nat → Nat} (hC : ∀ x, C x ≤ x) : ∀ i, MetOk m.nx.length (mSt m L C i).met
  | 0 => ⟨by simp [mSt], fun x hx => by
      have h0 := hC 0
      have h1 := hm.pos
      simp [mSt] at hx
      subst hx; omega⟩
  | i + 1 => by
    have ih := mSt_ok hm L hC i
    rw [mSt]
    simp only
    split
    · rename_i hlt
      have := ih.at_ hlt
      exact pMet_ok hm L hC ih (by omega) 6 (by omega)
    · exact ih
theorem mSt_len {m : Mc} (hm : MOk m) (L : Nat → Bool) {C : Nat → Nat} (hC : ∀ x, C x ≤ x) (i : Nat) : (mSt m L C i).met.length ≤ m.nx.length := (mSt_ok hm L hC i).len
theorem mSt_stop {m : Mc} {L : Nat → Bool} {C : Nat → Nat} {i : Nat} (h : (mSt m L C i).met.length ≤ i) : ∀ j, mSt m L C (i + j) = mSt m L C i
  | 0 => rfl
  | j + 1 => by
    have ih := mSt_stop h j
    show mSt m L C (i + j + 1) = _
    rw [mSt]
    simp only
    rw [ih, if_neg (by omega)]
/-- The end of the search. -/
def mEnd (m : Mc) (L : Nat → Bool) (C : Nat → Nat) : MSt := mSt m L C m.nx.length
theorem mEnd_of {m : Mc} (hm : MOk m) {L : Nat → Bool} {C : Nat → Nat} (hC : ∀ x, C x ≤ x) {i : Nat} (hi : i = (mSt m L C i).met.length) : mSt m L C i = mEnd m L C := by
  have hle := mSt_len hm L hC i
  have := mSt_stop (m := m) (L := L) (C := C) (i := i) (by omega) (m.nx.length - i)
  rw [show i + (m.nx.length - i) = m.nx.length by omega] at this
  exact this.symm
theorem mSt_rows {m : Mc} (L : Nat → Bool) (C : Nat → Nat) : ∀ i, (∀ k, k < i → k < (mSt m L C k).met.length) → (mSt m L C i).rows.length = i
  | 0, _ => rfl
  | i + 1, h => by
    rw [mSt]
    simp only
    rw [if_pos (h i (by omega)), List.length_append, mSt_rows L C i (fun k hk => h k (by omega))]
    simp
theorem mSt_congr {m : Mc} (hm : MOk m) {L L' : Nat → Bool} {C C' : Nat → Nat} (hL : ∀ x, x < m.nx.length → L x = L' x) (hC : agr m.nx.length C C') (hCl : ∀ x, C x ≤ x) : ∀ i, mSt m L C i = mSt m L' C' i
  | 0 => by rw [mSt, mSt, hC 0 hm.pos]
  | i + 1 => by
    have ih := mSt_congr hm hL hC hCl i
    rw [mSt, mSt, ← ih]
    simp only
    split
    · rename_i hlt
      have h1 := (mSt_ok hm L hCl i).at_ hlt
      have hs : (at0 (mSt m L C i).met i).toNat < m.nx.length := by omega
      have hp := pMet_congr hm hL hC (mSt m L C i).met hs
      rw [hp 6 (by omega)]
      have hr : pRowL m L C (mSt m L C i).met (at0 (mSt m L C i).met i).toNat = pRowL m L' C' (mSt m L C i).met (at0 (mSt m L C i).met i).toNat := by
        unfold pRowL
        refine List.map_congr_left fun v hv => ?_
        have hv6 : v < 6 := List.mem_range.1 hv
        have hx := hm.lt hs hv6
        unfold pRow
        rw [hL _ hx, hC _ hx, hp (v + 1) (by omega)]
      rw [hr]
    · rfl
theorem mEnd_congr {m : Mc} (hm : MOk m) {L L' : Nat → Bool} {C C' : Nat → Nat} (hL : ∀ x, x < m.nx.length → L x = L' x) (hC : agr m.nx.length C C') (hCl : ∀ x, C x ≤ x) : mEnd m L C = mEnd m L' C' := mSt_congr hm hL hC hCl _
theorem contains_iff (xs : List Int) (x : Int) : xs.contains x = true ↔ x ∈ xs := by simp
theorem fidx_rg (p : Nat → Bool) (n : Nat) : -1 ≤ fidx p n ∧ fidx p n < n + 0 ∨ fidx p n = -1 := by
  unfold fidx
  cases h : (List.range n).find? p with
  | none => right; rfl
  | some i =>
    left
    have := List.mem_of_find?_eq_some h
    rw [List.mem_range] at this
    show -1 ≤ (i : Int) ∧ (i : Int) < n + 0
    omega
theorem plc_rg {xs : List Int} {x : Int} : -1 ≤ plc xs x ∧ plc xs x < xs.length ∨ plc xs x = -1 := by
  have := fidx_rg (fun i => x == at0 xs i) xs.length
  unfold plc
  omega
theorem pRowL_len (m : Mc) (L : Nat → Bool) (C : Nat → Nat) (met : List Int) (s : Nat) : (pRowL m L C met s).length = 6 := by simp [pRowL]
theorem pRowL_at (m : Mc) (L : Nat → Bool) (C : Nat → Nat) (met : List Int) (s : Nat) {v : Nat} (hv : v < 6) : at0 (pRowL m L C met s) v = pRow m L C met s v := by
  unfold at0
  rw [getD_lt _ _ (by rw [pRowL_len]; exact hv)]
  simp [pRowL]
theorem pMet_len_mono (m : Mc) (L : Nat → Bool) (C : Nat → Nat) (met : List Int) (s v : Nat) : (pMet m L C met s v).length ≤ (pMet m L C met s (v + 1)).length := by
  rw [pMet]; split <;> simp
theorem pMet_len_le (m : Mc) (L : Nat → Bool) (C : Nat → Nat) (met : List Int) (s : Nat) : ∀ j v, (pMet m L C met s v).length ≤ (pMet m L C met s (v + j)).length
  | 0, _ => Nat.le_refl _
  | j + 1, v => Nat.le_trans (pMet_len_le m L C met s j v) (pMet_len_mono m L C met s (v + j))
/-- The rows' numbers are places of classes met, or -1. -/
theorem pRow_rg (m : Mc) (L : Nat → Bool) (C : Nat → Nat) (met : List Int) (s : Nat) {v : Nat} (hv : v < 6) : -1 ≤ pRow m L C met s v ∧ pRow m L C met s v < (pMet m L C met s 6).length := by
  unfold pRow
  have h2 := pMet_len_le m L C met s (6 - (v + 1)) (v + 1)
  rw [show v + 1 + (6 - (v + 1)) = 6 by omega] at h2
  split
  · have := plc_rg (xs := pMet m L C met s (v + 1)) (x := (C (mT m s v) : Int))
    omega
  · omega
/-- The automaton that the search makes is well-formed. -/
structure MRes (m : Mc) (S : MSt) (i : Nat) : Prop where
  len : S.rows.length ≤ i
  fl : S.fins.length ≤ i
  row : ∀ k, k < S.rows.length → (rw0 S.rows k).length = 6 ∧ ∀ j, j < 6 → -1 ≤ at0 (rw0 S.rows k) j ∧ at0 (rw0 S.rows k) j < S.met.length
  fin : ∀ k, k < S.fins.length → 0 ≤ at0 S.fins k ∧ at0 S.fins k < i
theorem rw0_snoc (rs : List (List Int)) (r : List Int) : rw0 (rs ++ [r]) rs.length = r := by simp [rw0]
theorem rw0_snoc_lt (rs : List (List Int)) (r : List Int) {i : Nat} (h : i < rs.length) : rw0 (rs ++ [r]) i = rw0 rs i := by simp [rw0, List.getElem?_append_left h]
theorem at0_snoc (xs : List Int) (x : Int) : at0 (xs ++ [x]) xs.length = x := by simp [at0]
theorem at0_snoc_lt (xs : List Int) (x : Int) {i : Nat} (h : i < xs.length) : at0 (xs ++ [x]) i = at0 xs i := by simp [at0, List.getElem?_append_left h]
theorem mSt_res (m : Mc) (L : Nat → Bool) (C : Nat → Nat) : ∀ i, MRes m (mSt m L C i) i
  | 0 => ⟨by simp [mSt], by simp [mSt], fun k hk => by simp [mSt] at hk, fun k hk => by simp [mSt] at hk⟩
  | i + 1 => by
    have ih := mSt_res m L C i
    rw [mSt]
    simp only
    split
    · rename_i hlt
      obtain ⟨ys, hys⟩ := pMet_pre m L C (mSt m L C i).met (at0 (mSt m L C i).met i).toNat 6
      refine ⟨?_, ?_, fun k hk => ?_, ?_⟩
      · have := ih.len; simp; omega
      · have := ih.fl; simp only; split <;> simp <;> omega
      · simp only [List.length_append, List.length_singleton] at hk
        by_cases hkl : k < (mSt m L C i).rows.length
        · simp only
          rw [rw0_snoc_lt _ _ hkl]
          obtain ⟨h1, h2⟩ := ih.row k hkl
          refine ⟨h1, fun j hj => ?_⟩
          have := h2 j hj
          rw [hys, List.length_append]; omega
        · obtain rfl : k = (mSt m L C i).rows.length := by omega
          simp only
          rw [rw0_snoc]
          refine ⟨pRowL_len .., fun j hj => ?_⟩
          rw [pRowL_at m L C _ _ hj]
          exact pRow_rg m L C _ _ hj
      · intro k hk
        simp only at hk ⊢
        split at hk
        · rename_i hf
          rw [if_pos hf]
          simp only [List.length_append, List.length_singleton] at hk
          by_cases hkl : k < (mSt m L C i).fins.length
          · rw [at0_snoc_lt _ _ hkl]
            have := ih.fin k hkl; omega
          · obtain rfl : k = (mSt m L C i).fins.length := by omega
            rw [at0_snoc]; omega
        · rename_i hf
          rw [if_neg hf]
          have := ih.fin k hk; omega
    · exact ⟨by have := ih.len; omega, by have := ih.fl; omega, ih.row, fun k hk => by have := ih.fin k hk; omega⟩
end Go.Proofs.Ytdiedghaoleblaa
