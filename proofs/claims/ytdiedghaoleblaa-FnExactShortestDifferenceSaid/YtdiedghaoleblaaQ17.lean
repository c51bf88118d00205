/- The minimal form tells the language and nothing else, in plain Lean. -/
import Derived.Test.YtdiedghaoleblaaMcPr
import Derived.Test.YtdiedghaoleblaaQ20
import Derived.Test.YtdiedghaoleblaaMcIn
import Derived.Test.YtdiedghaoleblaaAutD
namespace Go.Proofs.Ytdiedghaoleblaa
open Go.RowKit

/-- Words of values. -/
def Wd (w : List Nat) : Prop := ∀ v ∈ w, v < 6
/-- The same words are accepted from s as from s'. -/
def LEq (m : Mc) (s : Nat) (m' : Mc) (s' : Nat) : Prop := ∀ w, Wd w → mF m (wT m s w) = mF m' (wT m' s' w)
theorem LEq.refl (m : Mc) (s : Nat) : LEq m s m s := fun _ _ => rfl
theorem LEq.symm {m m' : Mc} {s s' : Nat} (h : LEq m s m' s') : LEq m' s' m s := fun w hw => (h w hw).symm
theorem LEq.trans {m m' m2 : Mc} {s s' s2 : Nat} (h : LEq m s m' s') (k : LEq m' s' m2 s2) : LEq m s m2 s2 := fun w hw => (h w hw).trans (k w hw)
theorem Wd.cons {v : Nat} {w : List Nat} (hv : v < 6) (h : Wd w) : Wd (v :: w) := fun u hu => by rcases List.mem_cons.1 hu with rfl | hu; exact hv; exact h u hu
theorem Wd.head {v : Nat} {w : List Nat} (h : Wd (v :: w)) : v < 6 := h v (by simp)
theorem Wd.tail {v : Nat} {w : List Nat} (h : Wd (v :: w)) : Wd w := fun u hu => h u (by simp [hu])
theorem Wd.nil_ : Wd [] := fun u hu => by simp at hu
theorem LEq.step {m m' : Mc} {s s' v : Nat} (h : LEq m s m' s') (hv : v < 6) : LEq m (mT m s v) m' (mT m' s' v) := fun w hw => h (v :: w) (hw.cons hv)
theorem LEq.fin {m m' : Mc} {s s' : Nat} (h : LEq m s m' s') : mF m s = mF m' s' := h [] Wd.nil_
theorem LEq.live {m m' : Mc} {s s' : Nat} (h : LEq m s m' s') : Live m s ↔ Live m' s' :=
  ⟨fun ⟨w, h1, h2⟩ => ⟨w, h1, by rw [← h w h1]; exact h2⟩, fun ⟨w, h1, h2⟩ => ⟨w, h1, by rw [h w h1]; exact h2⟩⟩
theorem LEq.CC {m : Mc} : ∀ k a b, LEq m a m b → CC m k a = CC m k b
  | 0, a, b, _ => rfl
  | 1, a, b, h => by
    rw [CC_succ, clS_eq (eqv_EE m 0)]
    show e0 m a b = true
    unfold e0
    rw [h.fin]; simp
  | k + 2, a, b, h => by
    rw [CC_succ, clS_eq (eqv_EE m _)]
    exact eC_iff.2 ⟨LEq.CC (k + 1) a b h, fun v hv => LEq.CC (k + 1) _ _ (h.step hv)⟩
theorem LEq.cl {m : Mc} {a b : Nat} (h : LEq m a m b) : clF m a = clF m b := LEq.CC _ a b h
theorem LEq.of_cl {m : Mc} (hm : MOk m) {a b : Nat} (ha : a < m.nx.length) (hb : b < m.nx.length) (h : clF m a = clF m b) : LEq m a m b := by
  intro w hw
  induction w generalizing a b with
  | nil => exact (clF_same hm ha hb h).1
  | cons v w ih =>
    have hv := hw.head
    exact ih (hm.lt ha hv) (hm.lt hb hv) ((clF_same hm ha hb h).2 v hv) hw.tail
theorem find_congr {α : Type} {p q : α → Bool} : ∀ (l : List α), (∀ x ∈ l, p x = q x) → l.find? p = l.find? q
  | [], _ => rfl
  | a :: l, h => by
    rw [List.find?_cons, List.find?_cons, h a (by simp), find_congr l (fun x hx => h x (by simp [hx]))]
theorem fidx_congr {p q : Nat → Bool} {n : Nat} (h : ∀ i, i < n → p i = q i) : fidx p n = fidx q n := by
  unfold fidx
  rw [find_congr (p := p) (q := q) _ (fun x hx => h x (List.mem_range.1 hx))]
/-- A class number that stands for itself. -/
def Rep (m : Mc) (x : Int) : Prop := 0 ≤ x ∧ x < m.nx.length ∧ (clF m x.toNat : Int) = x
theorem Rep.of {m : Mc} {t : Nat} (ht : t < m.nx.length) : Rep m (clF m t) := by
  have := clF_le m t
  refine ⟨by omega, by omega, ?_⟩
  rw [Int.toNat_natCast, clF_idem]
/-- Two lists of classes that stand for the same words. -/
structure MetS (m m' : Mc) (xs ys : List Int) : Prop where
  len : xs.length = ys.length
  rx : ∀ i, i < xs.length → Rep m (at0 xs i)
  ry : ∀ i, i < ys.length → Rep m' (at0 ys i)
  eq : ∀ i, i < xs.length → LEq m (at0 xs i).toNat m' (at0 ys i).toNat
theorem MetS.at_ {m m' : Mc} (hm : MOk m) (hm' : MOk m') {xs ys : List Int} (h : MetS m m' xs ys) {t t' : Nat} (ht : t < m.nx.length) (ht' : t' < m'.nx.length) (hl : LEq m t m' t') {i : Nat} (hi : i < xs.length) :
    ((clF m t : Int) == at0 xs i) = ((clF m' t' : Int) == at0 ys i) := by
  have hi' : i < ys.length := by have := h.len; omega
  obtain ⟨a1, a2, a3⟩ := h.rx i hi
  obtain ⟨b1, b2, b3⟩ := h.ry i hi'
  have he := h.eq i hi
  rw [Bool.eq_iff_iff, beq_iff_eq, beq_iff_eq]
  constructor
  · intro e
    have h1 : LEq m (at0 xs i).toNat m t := LEq.of_cl hm (by omega) ht (by omega)
    have h2 := (((he.symm).trans h1).trans hl).cl
    omega
  · intro e
    have h1 : LEq m' (at0 ys i).toNat m' t' := LEq.of_cl hm' (by omega) ht' (by omega)
    have h2 := ((he.trans h1).trans hl.symm).cl
    omega
theorem contains_any (xs : List Int) (x : Int) : xs.contains x = anyB (fun i => x == at0 xs i) xs.length := by
  rw [Bool.eq_iff_iff, contains_iff, anyB_iff]
  constructor
  · intro h
    obtain ⟨i, hi, e⟩ := List.mem_iff_getElem.1 h
    exact ⟨i, hi, by unfold at0; rw [getD_lt _ _ hi, e]; simp⟩
  · rintro ⟨i, hi, h⟩
    rw [beq_iff_eq] at h
    rw [h]; exact at0_mem hi
theorem anyB_congr {p q : Nat → Bool} {n : Nat} (h : ∀ i, i < n → p i = q i) : anyB p n = anyB q n := by
  rw [Bool.eq_iff_iff, anyB_iff, anyB_iff]
  constructor
  · rintro ⟨i, hi, e⟩; exact ⟨i, hi, by rw [← h i hi]; exact e⟩
  · rintro ⟨i, hi, e⟩; exact ⟨i, hi, by rw [h i hi]; exact e⟩
theorem MetS.has {m m' : Mc} (hm : MOk m) (hm' : MOk m') {xs ys : List Int} (h : MetS m m' xs ys) {t t' : Nat} (ht : t < m.nx.length) (ht' : t' < m'.nx.length) (hl : LEq m t m' t') :
    xs.contains (clF m t : Int) = ys.contains (clF m' t' : Int) := by
  rw [contains_any, contains_any, ← h.len]
  exact anyB_congr fun i hi => h.at_ hm hm' ht ht' hl hi
theorem MetS.plc {m m' : Mc} (hm : MOk m) (hm' : MOk m') {xs ys : List Int} (h : MetS m m' xs ys) {t t' : Nat} (ht : t < m.nx.length) (ht' : t' < m'.nx.length) (hl : LEq m t m' t') :
    plc xs (clF m t) = plc ys (clF m' t') := by
  unfold Go.Proofs.Ytdiedghaoleblaa.plc
  rw [← h.len]
  exact fidx_congr fun i hi => h.at_ hm hm' ht ht' hl hi
theorem MetS.snoc {m m' : Mc} {xs ys : List Int} (h : MetS m m' xs ys) {t t' : Nat} (ht : t < m.nx.length) (ht' : t' < m'.nx.length) (hl : LEq m t m' t') (hm : MOk m) (hm' : MOk m') :
    MetS m m' (xs ++ [(clF m t : Int)]) (ys ++ [(clF m' t' : Int)]) := by
  have hlen := h.len
  refine ⟨by simp [hlen], fun i hi => ?_, fun i hi => ?_, fun i hi => ?_⟩
  · by_cases hlt : i < xs.length
    · rw [at0_snoc_lt _ _ hlt]; exact h.rx i hlt
    · obtain rfl : i = xs.length := by simp at hi; omega
      rw [at0_snoc]; exact Rep.of ht
  · by_cases hlt : i < ys.length
    · rw [at0_snoc_lt _ _ hlt]; exact h.ry i hlt
    · obtain rfl : i = ys.length := by simp at hi; omega
      rw [at0_snoc]; exact Rep.of ht'
  · by_cases hlt : i < xs.length
    · rw [at0_snoc_lt _ _ hlt, at0_snoc_lt _ _ (by omega)]; exact h.eq i hlt
    · obtain rfl : i = xs.length := by simp at hi; omega
      rw [at0_snoc, hlen, at0_snoc, Int.toNat_natCast, Int.toNat_natCast]
      have h1 : clF m t < m.nx.length := Nat.lt_of_le_of_lt (clF_le m t) ht
      have h2 : clF m' t' < m'.nx.length := Nat.lt_of_le_of_lt (clF_le m' t') ht'
      exact ((LEq.of_cl hm h1 ht (clF_idem m t)).trans hl).trans (LEq.of_cl hm' ht' h2 (clF_idem m' t').symm)
section
variable {m m' : Mc} (hm : MOk m) (hm' : MOk m') {L L' : Nat → Bool} (hL : ∀ x, x < m.nx.length → (L x = true ↔ Live m x)) (hL' : ∀ x, x < m'.nx.length → (L' x = true ↔ Live m' x))
include hL hL'
theorem live_same {t t' : Nat} (ht : t < m.nx.length) (ht' : t' < m'.nx.length) (hl : LEq m t m' t') : L t = L' t' := by
  rw [Bool.eq_iff_iff, hL t ht, hL' t' ht']; exact hl.live
include hm hm'
theorem pMet_sim {xs ys : List Int} (h : MetS m m' xs ys) {s s' : Nat} (hs : s < m.nx.length) (hs' : s' < m'.nx.length) (hl : LEq m s m' s') :
    ∀ v, v ≤ 6 → MetS m m' (pMet m L (clF m) xs s v) (pMet m' L' (clF m') ys s' v)
  | 0, _ => h
  | v + 1, hv => by
    have ih := pMet_sim h hs hs' hl v (by omega)
    have ht := hm.lt hs (show v < 6 by omega)
    have ht' := hm'.lt hs' (show v < 6 by omega)
    have hlt := hl.step (show v < 6 by omega)
    rw [pMet, pMet]
    rw [live_same hL hL' ht ht' hlt, ih.has hm hm' ht ht' hlt]
    split
    · exact ih.snoc ht ht' hlt hm hm'
    · exact ih
theorem pRow_sim {xs ys : List Int} (h : MetS m m' xs ys) {s s' : Nat} (hs : s < m.nx.length) (hs' : s' < m'.nx.length) (hl : LEq m s m' s') {v : Nat} (hv : v < 6) :
    pRow m L (clF m) xs s v = pRow m' L' (clF m') ys s' v := by
  have ht := hm.lt hs hv
  have ht' := hm'.lt hs' hv
  have hlt := hl.step hv
  unfold pRow
  rw [live_same hL hL' ht ht' hlt, (pMet_sim hm hm' hL hL' h hs hs' hl (v + 1) (by omega)).plc hm hm' ht ht' hlt]
theorem mSt_sim (hl0 : LEq m 0 m' 0) : ∀ i, MetS m m' (mSt m L (clF m) i).met (mSt m' L' (clF m') i).met ∧ (mSt m L (clF m) i).rows = (mSt m' L' (clF m') i).rows ∧ (mSt m L (clF m) i).fins = (mSt m' L' (clF m') i).fins
  | 0 => by
    refine ⟨?_, rfl, rfl⟩
    have hp := hm.pos
    have hp' := hm'.pos
    have h0 := clF_le m 0
    have h0' := clF_le m' 0
    have e : MetS m m' [] [] := ⟨rfl, fun i hi => by simp at hi, fun i hi => by simp at hi, fun i hi => by simp at hi⟩
    exact e.snoc (t := 0) (t' := 0) (by omega) (by omega) hl0 hm hm'
  | i + 1 => by
    obtain ⟨h1, h2, h3⟩ := mSt_sim hl0 i
    rw [mSt, mSt]
    simp only
    rw [← h1.len]
    split
    · rename_i hlt
      obtain ⟨a1, a2, a3⟩ := h1.rx i hlt
      obtain ⟨b1, b2, b3⟩ := h1.ry i (by have := h1.len; omega)
      have hs : (at0 (mSt m L (clF m) i).met i).toNat < m.nx.length := by omega
      have hs' : (at0 (mSt m' L' (clF m') i).met i).toNat < m'.nx.length := by omega
      have hl := h1.eq i hlt
      refine ⟨pMet_sim hm hm' hL hL' h1 hs hs' hl 6 (by omega), ?_, ?_⟩
      · show _ ++ [_] = _ ++ [_]
        rw [h2]
        congr 2
        unfold pRowL
        exact List.map_congr_left fun v hv => pRow_sim hm hm' hL hL' h1 hs hs' hl (List.mem_range.1 hv)
      · show (if _ then _ else _) = (if _ then _ else _)
        rw [hl.fin, h3]
    · exact ⟨h1, h2, h3⟩
theorem mEnd_sim (hl0 : LEq m 0 m' 0) : (mEnd m L (clF m)).rows = (mEnd m' L' (clF m')).rows ∧ (mEnd m L (clF m)).fins = (mEnd m' L' (clF m')).fins := by
  have e1 := mSt_stop (m := m) (L := L) (C := clF m) (i := m.nx.length) (mSt_len hm L (fun x => clF_le m x) _) m'.nx.length
  have e2 := mSt_stop (m := m') (L := L') (C := clF m') (i := m'.nx.length) (mSt_len hm' L' (fun x => clF_le m' x) _) m.nx.length
  obtain ⟨-, h2, h3⟩ := mSt_sim hm hm' hL hL' hl0 (m.nx.length + m'.nx.length)
  unfold mEnd
  rw [← e1, ← e2, Nat.add_comm m'.nx.length m.nx.length]
  exact ⟨h2, h3⟩
end
/-- The minimal form is that of the language. -/
theorem IsMin.canon {m m' : Mc} (hm : MOk m) (hm' : MOk m') (hl : LEq m 0 m' 0) {r r' : List (List Int)} {f f' : List Int} (h : IsMin m r f) (h' : IsMin m' r' f') : r = r' ∧ f = f' := by
  obtain ⟨L, h1, rfl, rfl⟩ := h
  obtain ⟨L', h1', rfl, rfl⟩ := h'
  exact mEnd_sim hm hm' h1 h1' hl
theorem IsMin.any {m : Mc} : ∃ r f, IsMin m r f := by
  classical
  exact ⟨_, _, fun x => decide (Live m x), fun x _ => by simp, rfl, rfl⟩

/-- What the search's rows say. -/
structure RowS (m : Mc) (S : MSt) (i : Nat) : Prop where
  rep : ∀ k, k < S.met.length → Rep m (at0 S.met k)
  cnt : (S.rows.length = i ∧ i ≤ S.met.length) ∨ (S.rows.length = S.met.length ∧ S.met.length ≤ i)
  row : ∀ k, k < S.rows.length → ∀ v, v < 6 → (Live m (mT m (at0 S.met k).toNat v) → ∃ p : Nat, p < S.met.length ∧ at0 (rw0 S.rows k) v = p ∧ at0 S.met p = clF m (mT m (at0 S.met k).toNat v)) ∧
    (¬ Live m (mT m (at0 S.met k).toNat v) → at0 (rw0 S.rows k) v = -1)
  fin : ∀ k : Nat, (k : Int) ∈ S.fins ↔ k < S.rows.length ∧ mF m (at0 S.met k).toNat = true
  asc : ∀ k, 0 < k → k < S.fins.length → at0 S.fins (k - 1) < at0 S.fins k
theorem at0_app (xs ys : List Int) {i : Nat} (h : i < xs.length) : at0 (xs ++ ys) i = at0 xs i := by simp [at0, List.getElem?_append_left h]
theorem plc_hit {xs : List Int} {x : Int} (h : x ∈ xs) : ∃ p : Nat, p < xs.length ∧ plc xs x = p ∧ at0 xs p = x := by
  unfold plc fidx
  cases hf : (List.range xs.length).find? (fun i => x == at0 xs i) with
  | none =>
    rw [List.find?_range_eq_none] at hf
    obtain ⟨i, hi, e⟩ := List.mem_iff_getElem.1 h
    have := hf i hi
    unfold at0 at this
    rw [getD_lt _ _ hi, e] at this
    simp at this
  | some p =>
    rw [List.find?_range_eq_some] at hf
    exact ⟨p, by simpa using hf.2.1, rfl, by have := hf.1; rw [beq_iff_eq] at this; exact this.symm⟩
section
variable {m : Mc} (hm : MOk m) {L : Nat → Bool} (hL : ∀ x, x < m.nx.length → (L x = true ↔ Live m x))
theorem pMet_mono (met : List Int) (s : Nat) : ∀ v j, ∃ ys, pMet m L (clF m) met s (v + j) = pMet m L (clF m) met s v ++ ys
  | v, 0 => ⟨[], by simp⟩
  | v, j + 1 => by
    obtain ⟨ys, e⟩ := pMet_mono met s v j
    rw [show v + (j + 1) = v + j + 1 by omega, pMet]
    split
    · exact ⟨_, by rw [e, List.append_assoc]⟩
    · exact ⟨ys, e⟩
include hm
theorem pMet_rep {met : List Int} (h : ∀ k, k < met.length → Rep m (at0 met k)) {s : Nat} (hs : s < m.nx.length) : ∀ v, v ≤ 6 → ∀ k, k < (pMet m L (clF m) met s v).length → Rep m (at0 (pMet m L (clF m) met s v) k)
  | 0, _ => h
  | v + 1, hv => by
    have ih := pMet_rep h hs v (by omega)
    have ht := hm.lt hs (show v < 6 by omega)
    rw [pMet]
    split
    · intro k hk
      by_cases hlt : k < (pMet m L (clF m) met s v).length
      · rw [at0_snoc_lt _ _ hlt]; exact ih k hlt
      · obtain rfl : k = (pMet m L (clF m) met s v).length := by simp at hk; omega
        rw [at0_snoc]; exact Rep.of ht
    · exact ih
include hL
theorem pRow_is {met : List Int} {s : Nat} (hs : s < m.nx.length) {v : Nat} (hv : v < 6) :
    (Live m (mT m s v) → ∃ p : Nat, p < (pMet m L (clF m) met s 6).length ∧ pRow m L (clF m) met s v = p ∧ at0 (pMet m L (clF m) met s 6) p = clF m (mT m s v)) ∧ (¬ Live m (mT m s v) → pRow m L (clF m) met s v = -1) := by
  have ht := hm.lt hs hv
  constructor
  · intro hl
    have hLt := (hL _ ht).2 hl
    have hin : (clF m (mT m s v) : Int) ∈ pMet m L (clF m) met s (v + 1) := by
      rw [pMet]
      rw [hLt]
      cases hc : (pMet m L (clF m) met s v).contains (clF m (mT m s v) : Int) with
      | true => simpa using hc
      | false => simp
    obtain ⟨p, h1, h2, h3⟩ := plc_hit hin
    obtain ⟨ys, e⟩ := pMet_mono (m := m) (L := L) met s (v + 1) (6 - (v + 1))
    rw [show v + 1 + (6 - (v + 1)) = 6 by omega] at e
    refine ⟨p, by rw [e, List.length_append]; omega, ?_, by rw [e, at0_app _ _ h1]; exact h3⟩
    unfold pRow
    rw [if_pos hLt]
    exact h2
  · intro hl
    unfold pRow
    rw [if_neg (fun h => hl ((hL _ ht).1 h))]
theorem mSt_rowS : ∀ i, RowS m (mSt m L (clF m) i) i
  | 0 => by
    have hp := hm.pos
    have h0 := clF_le m 0
    refine ⟨fun k hk => ?_, .inl ⟨rfl, by omega⟩, fun k hk => by simp [mSt] at hk, fun k => by simp [mSt], fun k _ hk => by simp [mSt] at hk⟩
    obtain rfl : k = 0 := by simp [mSt] at hk; omega
    exact Rep.of (m := m) (t := 0) (by omega)
  | i + 1 => by
    have ih := mSt_rowS i
    rw [mSt]
    simp only
    split
    · rename_i hlt
      have hri : (mSt m L (clF m) i).rows.length = i := by rcases ih.cnt with h | h <;> omega
      obtain ⟨a1, a2, a3⟩ := ih.rep i hlt
      have hs : (at0 (mSt m L (clF m) i).met i).toNat < m.nx.length := by omega
      obtain ⟨ys, hys⟩ := pMet_pre m L (clF m) (mSt m L (clF m) i).met (at0 (mSt m L (clF m) i).met i).toNat 6
      have hpl : (mSt m L (clF m) i).met.length ≤ (pMet m L (clF m) (mSt m L (clF m) i).met (at0 (mSt m L (clF m) i).met i).toNat 6).length := by rw [hys, List.length_append]; omega
      have hat : ∀ k, k < (mSt m L (clF m) i).met.length → at0 (pMet m L (clF m) (mSt m L (clF m) i).met (at0 (mSt m L (clF m) i).met i).toNat 6) k = at0 (mSt m L (clF m) i).met k := fun k hk => by rw [hys, at0_app _ _ hk]
      have hfins : ∀ k : Nat, (k : Int) ∈ (if mF m (at0 (mSt m L (clF m) i).met i).toNat = true then (mSt m L (clF m) i).fins ++ [(i : Int)] else (mSt m L (clF m) i).fins) ↔ k < i + 1 ∧ mF m (at0 (mSt m L (clF m) i).met k).toNat = true := by
        intro k
        have hk := ih.fin k
        rw [hri] at hk
        split
        · rename_i hf
          rw [List.mem_append, hk, List.mem_singleton]
          constructor
          · rintro (⟨h1, h2⟩ | h1)
            · exact ⟨by omega, h2⟩
            · obtain rfl : k = i := by omega
              exact ⟨by omega, hf⟩
          · rintro ⟨h1, h2⟩
            by_cases e : k = i
            · exact .inr (by omega)
            · exact .inl ⟨by omega, h2⟩
        · rename_i hf
          rw [hk]
          constructor
          · rintro ⟨h1, h2⟩; exact ⟨by omega, h2⟩
          · rintro ⟨h1, h2⟩
            by_cases e : k = i
            · subst e; exact absurd h2 hf
            · exact ⟨by omega, h2⟩
      refine ⟨pMet_rep hm ih.rep hs 6 (by omega), .inl ⟨by simp [hri], by show i + 1 ≤ (pMet m L (clF m) (mSt m L (clF m) i).met (at0 (mSt m L (clF m) i).met i).toNat 6).length; omega⟩, fun k hk v hv => ?_, fun k => ?_, ?_⟩
      · simp only [List.length_append, List.length_singleton] at hk
        by_cases hkl : k < (mSt m L (clF m) i).rows.length
        · simp only
          rw [rw0_snoc_lt _ _ hkl, hat k (by omega)]
          obtain ⟨q1, q2⟩ := ih.row k hkl v hv
          refine ⟨fun hl => ?_, q2⟩
          obtain ⟨p, p1, p2, p3⟩ := q1 hl
          exact ⟨p, by omega, p2, by rw [hat p p1]; exact p3⟩
        · obtain rfl : k = (mSt m L (clF m) i).rows.length := by omega
          simp only
          rw [rw0_snoc, hri, hat i hlt, pRowL_at m L _ _ _ hv]
          exact pRow_is hm hL hs hv
      · simp only
        rw [hfins k]
        simp only [List.length_append, List.length_singleton, hri]
        constructor
        · rintro ⟨h1, h2⟩; exact ⟨h1, by rw [hat k (by omega)]; exact h2⟩
        · rintro ⟨h1, h2⟩; exact ⟨h1, by rw [hat k (by omega)] at h2; exact h2⟩
      · intro k h0 hk
        simp only at hk ⊢
        split at hk
        · rename_i hf
          rw [if_pos hf]
          simp only [List.length_append, List.length_singleton] at hk
          by_cases hkl : k < (mSt m L (clF m) i).fins.length
          · rw [at0_snoc_lt _ _ hkl, at0_snoc_lt _ _ (by omega)]
            exact ih.asc k h0 hkl
          · obtain rfl : k = (mSt m L (clF m) i).fins.length := by omega
            rw [at0_snoc, at0_snoc_lt _ _ (by omega)]
            have := (mSt_res m L (clF m) i).fin ((mSt m L (clF m) i).fins.length - 1) (by omega)
            omega
        · rename_i hf
          rw [if_neg hf]
          exact ih.asc k h0 hk
    · rename_i hlt
      have hcnt := ih.cnt
      exact ⟨ih.rep, .inr (by rcases hcnt with h | h <;> omega), ih.row, ih.fin, ih.asc⟩
end
theorem wT_dead {m : Mc} {s : Nat} (h : ¬ Live m s) {w : List Nat} (hw : Wd w) : mF m (wT m s w) = false := by
  cases e : mF m (wT m s w) with
  | false => rfl
  | true => exact absurd ⟨w, hw, e⟩ h
/-- The minimal automaton: valid, and it accepts what the machine accepts. -/
theorem IsMin.aut {m : Mc} (hm : MOk m) {r : List (List Int)} {f : List Int} (h : IsMin m r f) (h8 : r.length ≤ 8) : vAut ⟨r, f⟩ = true ∧ LEq (totM ⟨r, f⟩) 0 m 0 := by
  obtain ⟨L, hL, rfl, rfl⟩ := h
  have hS := mSt_rowS hm hL m.nx.length
  have hR := mSt_res m L (clF m) m.nx.length
  have hml := mSt_len hm L (fun x => clF_le m x) m.nx.length
  have hpre : ∀ i, (mSt m L (clF m) i).met.length ≥ 1 ∧ at0 (mSt m L (clF m) i).met 0 = clF m 0 := by
    intro i
    induction i with
    | zero => exact ⟨by simp [mSt], rfl⟩
    | succ i ih =>
      rw [mSt]
      simp only
      split
      · obtain ⟨ys, hys⟩ := pMet_pre m L (clF m) (mSt m L (clF m) i).met (at0 (mSt m L (clF m) i).met i).toNat 6
        simp only
        rw [hys]
        exact ⟨by rw [List.length_append]; omega, by rw [at0_app _ _ (by omega)]; exact ih.2⟩
      · exact ih
  obtain ⟨hp1, hp0⟩ := hpre m.nx.length
  unfold mEnd at h8 ⊢
  generalize hSe : mSt m L (clF m) m.nx.length = S at *
  have hlen : S.rows.length = S.met.length := by rcases hS.cnt with h | h <;> omega
  have hv : vAut ⟨S.rows, S.fins⟩ = true := by
    unfold vAut
    simp only
    rw [Bool.and_eq_true]
    constructor
    · rw [vRows_all (fun i hi => ?_)]
      · unfold inR; simp; omega
      · obtain ⟨q1, q2⟩ := hR.row i hi
        unfold badRow
        rw [q1, allR_of (fun j hj => ?_)]
        · simp
        · rw [q1] at hj
          have := q2 j hj
          unfold inR; simp; omega
    · refine vFin_all (fun i hi => ?_) (fun i hi => ?_)
      · have h1 := hR.fin i hi
        have h2 : ((at0 S.fins i).toNat : Int) ∈ S.fins := by rw [Int.toNat_of_nonneg h1.1]; exact at0_mem hi
        have h3 := ((hS.fin _).1 h2).1
        unfold inR; simp; omega
      · unfold badAsc
        by_cases h0 : 0 < i
        · have := hS.asc i h0 hi
          simp; omega
        · simp; omega
  refine ⟨hv, ?_⟩
  have hT := totM_ok hv
  have hdead := tot_dead hv
  simp only at hdead
  -- states of the automaton stand for the classes met
  have key : ∀ (w : List Nat), Wd w → ∀ k, k < S.met.length → mF (totM ⟨S.rows, S.fins⟩) (wT (totM ⟨S.rows, S.fins⟩) k w) = mF m (wT m (at0 S.met k).toNat w) := by
    intro w
    induction w with
    | nil =>
      intro _ k hk
      show mF (totM ⟨S.rows, S.fins⟩) k = mF m _
      rw [totM_fin _ (by simp only; omega)]
      rw [Bool.eq_iff_iff, decide_eq_true_iff]
      simp only
      rw [hS.fin k]
      exact ⟨fun h => h.2, fun h => ⟨by omega, h⟩⟩
    | cons v w ih =>
      intro hw k hk
      have hv6 := hw.head
      show mF _ (wT _ (mT (totM ⟨S.rows, S.fins⟩) k v) w) = mF m (wT m (mT m (at0 S.met k).toNat v) w)
      have hrow := hS.row k (by omega) v hv6
      have h6 := (hR.row k (by omega)).1
      have hmT : mT (totM ⟨S.rows, S.fins⟩) k v = (mTo S.rows.length (at0 (rw0 S.rows k) v)).toNat := by
        unfold mT totM
        simp only
        rw [mRows_at (a := ⟨S.rows, S.fins⟩) (by simp only; omega), mRow_at _ _ (by simp only; omega)]
      obtain ⟨a1, a2, a3⟩ := hS.rep k hk
      have hs : (at0 S.met k).toNat < m.nx.length := by omega
      have ht := hm.lt hs hv6
      by_cases hl : Live m (mT m (at0 S.met k).toNat v)
      · obtain ⟨p, p1, p2, p3⟩ := hrow.1 hl
        rw [hmT, p2, mTo, if_neg (by omega), Int.toNat_natCast, ih hw.tail p p1]
        obtain ⟨b1, b2, b3⟩ := hS.rep p p1
        have : LEq m (at0 S.met p).toNat m (mT m (at0 S.met k).toNat v) := LEq.of_cl hm (by omega) ht (by omega)
        exact this w hw.tail
      · rw [hmT, hrow.2 hl, mTo, if_pos (by omega), Int.toNat_natCast, wT_dead hl hw.tail]
        exact wT_dead hdead hw.tail
  have h0 : LEq m (at0 S.met 0).toNat m 0 := by
    obtain ⟨b1, b2, b3⟩ := hS.rep 0 (by omega)
    rw [hp0, Int.toNat_natCast]
    exact LEq.of_cl hm (Nat.lt_of_le_of_lt (clF_le m 0) (by have := hm.pos; omega)) (by have := hm.pos; omega) (clF_idem m 0)
  intro w hw
  rw [key w hw 0 (by omega)]
  exact h0 w hw
/-- The minimal form of an automaton's machine has no more states than it. -/
theorem tot_min_len {a : Au} (hv : vAut a = true) {r : List (List Int)} {f : List Int} (h : IsMin (totM a) r f) : r.length ≤ a.next.length := by
  obtain ⟨L, hL, rfl, rfl⟩ := h
  have hm := totM_ok hv
  have h8 := vAut_len hv
  have hS := mSt_rowS hm hL (totM a).nx.length
  have hml := mSt_ok hm L (fun x => clF_le (totM a) x) (totM a).nx.length
  have hdead := tot_dead hv
  unfold mEnd
  have key : ∀ i, ∀ k, k < (mSt (totM a) L (clF (totM a)) i).met.length → k = 0 ∨ Live (totM a) (at0 (mSt (totM a) L (clF (totM a)) i).met k).toNat := by
    intro i
    induction i with
    | zero => intro k hk; left; simp [mSt] at hk; omega
    | succ i ih =>
      rw [mSt]
      simp only
      split
      · rename_i hlt
        have hs := (mSt_ok hm L (fun x => clF_le (totM a) x) i).at_ hlt
        have : ∀ v, v ≤ 6 → ∀ k, k < (pMet (totM a) L (clF (totM a)) (mSt (totM a) L (clF (totM a)) i).met (at0 (mSt (totM a) L (clF (totM a)) i).met i).toNat v).length → k = 0 ∨ Live (totM a) (at0 (pMet (totM a) L (clF (totM a)) (mSt (totM a) L (clF (totM a)) i).met (at0 (mSt (totM a) L (clF (totM a)) i).met i).toNat v) k).toNat := by
          intro v
          induction v with
          | zero => intro _; exact ih
          | succ v ihv =>
            intro hv6 k hk
            have ht := hm.lt (s := (at0 (mSt (totM a) L (clF (totM a)) i).met i).toNat) (by omega) (show v < 6 by omega)
            rw [pMet] at hk ⊢
            split at hk
            · rename_i hc
              rw [if_pos hc]
              by_cases hkl : k < (pMet (totM a) L (clF (totM a)) (mSt (totM a) L (clF (totM a)) i).met (at0 (mSt (totM a) L (clF (totM a)) i).met i).toNat v).length
              · rw [at0_snoc_lt _ _ hkl]; exact ihv (by omega) k hkl
              · obtain rfl : k = (pMet (totM a) L (clF (totM a)) (mSt (totM a) L (clF (totM a)) i).met (at0 (mSt (totM a) L (clF (totM a)) i).met i).toNat v).length := by simp at hk; omega
                right
                rw [at0_snoc, Int.toNat_natCast]
                have hLt : L (mT (totM a) (at0 (mSt (totM a) L (clF (totM a)) i).met i).toNat v) = true := by
                  rw [Bool.and_eq_true] at hc; exact hc.1
                exact ((hL _ ht).1 hLt).class hm ht (Nat.lt_of_le_of_lt (clF_le _ _) ht) (clF_idem _ _).symm
            · rename_i hc
              rw [if_neg hc]
              exact ihv (by omega) k hk
        exact this 6 (by omega)
      · exact ih
  have hne : ∀ x ∈ (mSt (totM a) L (clF (totM a)) (totM a).nx.length).met, 0 ≤ x ∧ x < (a.next.length : Int) := by
    intro x hx
    have h1 := hml.rg x hx
    rw [totM_len] at h1
    obtain ⟨i, hi, e⟩ := List.mem_iff_getElem.1 hx
    have e2 : at0 (mSt (totM a) L (clF (totM a)) (totM a).nx.length).met i = x := by unfold at0; rw [getD_lt _ _ hi, e]
    obtain ⟨b1, b2, b3⟩ := hS.rep i hi
    rw [e2] at b3
    refine ⟨h1.1, ?_⟩
    by_cases hx2 : x = a.next.length
    · exfalso
      rcases key _ i hi with rfl | hl
      · -- the first one is at most 0
        have : at0 (mSt (totM a) L (clF (totM a)) (totM a).nx.length).met 0 = clF (totM a) 0 := by
          have hpre : ∀ i, (mSt (totM a) L (clF (totM a)) i).met.length ≥ 1 ∧ at0 (mSt (totM a) L (clF (totM a)) i).met 0 = clF (totM a) 0 := by
            intro i
            induction i with
            | zero => exact ⟨by simp [mSt], rfl⟩
            | succ i ih =>
              rw [mSt]
              simp only
              split
              · obtain ⟨ys, hys⟩ := pMet_pre (totM a) L (clF (totM a)) (mSt (totM a) L (clF (totM a)) i).met (at0 (mSt (totM a) L (clF (totM a)) i).met i).toNat 6
                simp only
                rw [hys]
                exact ⟨by rw [List.length_append]; omega, by rw [at0_app _ _ (by omega)]; exact ih.2⟩
              · exact ih
          exact (hpre _).2
        rw [this] at e2
        have := clF_le (totM a) 0
        omega
      · rw [e2, hx2, Int.toNat_natCast] at hl
        exact hdead hl
    · omega
  have := nodup_lt a.next.length _ hml.nd hne
  rcases hS.cnt with h | h <;> omega
end Go.Proofs.Ytdiedghaoleblaa
/- What automata accept, and how many words, by their machines, in plain Lean. -/
namespace Go.Proofs.Ytdiedghaoleblaa
open Go.RowKit

/-- How many words of a length are accepted from a state. -/
def cntM (m : Mc) : Nat → Nat → Int
  | 0, s => if mF m s = true then 1 else 0
  | k + 1, s => sumN 6 (fun v => cntM m k (mT m s v))
theorem bw_cnt {a : Au} (hv : vAut a = true) : ∀ (k : Nat) {s : Nat}, s < a.next.length + 1 → bw a k s = cntM (totM a) k s
  | 0, s, hs => by
    unfold bw
    by_cases h : s < a.next.length
    · rw [if_pos h, cntM, totM_fin a hs, bwd]
      by_cases hm : (s : Int) ∈ a.final <;> simp [hm]
    · obtain rfl : s = a.next.length := by omega
      rw [if_neg h, cntM, if_neg (fun hf => tot_dead hv (Live.fin hf))]
  | k + 1, s, hs => by
    rw [bw_step hv k hs, cntM]
    exact sumN_congr fun v hv6 => bw_cnt hv k (mN_lt hv hs hv6)
theorem cw_cnt {a : Au} (hv : vAut a = true) {n : Nat} (hn : n ≤ 8) : cwB a n = cntM (totM a) n 0 := by
  have hl := vAut_len hv
  rw [← bw_cnt hv n (by omega), bw, if_pos (by omega), cwB, hv, show inR (n : Int) 0 8 = true by simp [inR]; omega, Int.toNat_natCast]
  rfl
theorem sumN_const (c : Int) : ∀ n : Nat, sumN n (fun _ => c) = n * c
  | 0 => by simp [sumN]
  | n + 1 => by
    rw [sumN, sumN_const c n, Int.natCast_add, Int.add_mul]
    simp
/-- Two states that part on every word: together they accept all. -/
theorem cnt_neg {m m' : Mc} : ∀ (k s s' : Nat), (∀ w, Wd w → mF m (wT m s w) = !mF m' (wT m' s' w)) → cntM m k s + cntM m' k s' = 6 ^ k
  | 0, s, s', h => by
    have h0 : mF m s = !mF m' s' := h [] Wd.nil_
    rw [cntM, cntM, h0]
    cases mF m' s' <;> simp
  | k + 1, s, s', h => by
    rw [cntM, cntM, ← sumN_add, sumN_congr (g := fun _ => 6 ^ k) (fun v hv => cnt_neg k _ _ (fun w hw => h (v :: w) (hw.cons hv))), sumN_const, Int.pow_succ, Int.mul_comm]
    rfl
theorem cnt_len {m m' : Mc} : ∀ (k s s' : Nat), (∀ w, Wd w → w.length = k → mF m (wT m s w) = mF m' (wT m' s' w)) → cntM m k s = cntM m' k s'
  | 0, s, s', h => by
    have h0 : mF m s = mF m' s' := h [] Wd.nil_ rfl
    rw [cntM, cntM, h0]
  | k + 1, s, s', h => by
    rw [cntM, cntM]
    exact sumN_congr fun v hv => cnt_len k _ _ (fun w hw hl => h (v :: w) (hw.cons hv) (by simp [hl]))
theorem wT_snoc (m : Mc) : ∀ (w : List Nat) (s v : Nat), wT m s (w ++ [v]) = mT m (wT m s w) v
  | [], _, _ => rfl
  | u :: w, s, v => by rw [List.cons_append, wT, wT, wT_snoc m w]
theorem wT_lt {m : Mc} (hm : MOk m) : ∀ (w : List Nat) {s : Nat}, s < m.nx.length → Wd w → wT m s w < m.nx.length
  | [], _, hs, _ => hs
  | _ :: w, _, hs, hw => wT_lt hm w (hm.lt hs hw.head) hw.tail
theorem vWord_wd {xs : List Int} (h : vWord xs = true) : Wd (xs.map Int.toNat) := by
  intro v hv
  obtain ⟨x, hx, rfl⟩ := List.mem_map.1 hv
  have ha : allR xs 0 5 = true := by
    simp only [vWord, Bool.and_eq_true] at h
    exact h.2
  have := List.all_eq_true.1 ha _ hx
  simp [inR] at this
  omega
theorem runM_wT {a : Au} (hv : vAut a = true) {xs : List Int} (hx : allR xs 0 5 = true) : ∀ k, k ≤ xs.length → runM a 0 xs k = (wT (totM a) 0 ((xs.map Int.toNat).take k) : Nat)
  | 0, _ => by simp [runM, wT]
  | k + 1, hk => by
    have ih := runM_wT hv hx k (by omega)
    have h1 := runM_in hv hx k (by omega)
    obtain ⟨x0, x1⟩ := allR_at hx (k := k) (by omega)
    have ht : (xs.map Int.toNat).take (k + 1) = (xs.map Int.toNat).take k ++ [(at0 xs k).toNat] := by
      rw [List.take_add_one, List.getElem?_map, List.getElem?_eq_getElem (by omega)]
      unfold at0
      rw [getD_lt _ _ (by omega)]
      rfl
    rw [ht, wT_snoc, runM, ih, Int.toNat_natCast]
    have h2 := (mRows_row hv (i := wT (totM a) 0 ((xs.map Int.toNat).take k)) (by omega)).2 (at0 xs k).toNat (by omega)
    unfold mT
    show _ = (((at0 (rw0 (mRows a) _) _).toNat : Nat) : Int)
    omega
/-- A word is accepted if the machine ends in a final state. -/
theorem acc_tot {a : Au} (hv : vAut a = true) {xs : List Int} (hw : vWord xs = true) : accB a xs = mF (totM a) (wT (totM a) 0 (xs.map Int.toNat)) := by
  have ha : allR xs 0 5 = true := by
    simp only [vWord, Bool.and_eq_true] at hw
    exact hw.2
  have h1 := runM_wT hv ha xs.length (Nat.le_refl _)
  rw [List.take_of_length_le (by simp)] at h1
  rw [accB, hv, hw, ← accM hv ha, h1, totM_fin]
  · rfl
  · have := wT_lt (totM_ok hv) (xs.map Int.toNat) (s := 0) (by rw [totM_len]; omega) (vWord_wd hw)
    rw [totM_len] at this
    exact this
theorem wT_neg (m : Mc) : ∀ (w : List Nat) (s : Nat), wT (negM m) s w = wT m s w
  | [], _ => rfl
  | _ :: w, _ => wT_neg m w _
theorem neg_acc {m : Mc} (hm : MOk m) {s : Nat} (hs : s < m.nx.length) {w : List Nat} (hw : Wd w) : mF (negM m) (wT (negM m) s w) = !mF m (wT m s w) := by
  rw [wT_neg, negM_fin hm (wT_lt hm w hs hw)]
theorem mF_pr (f : Bool → Bool → Bool) {m m' : Mc} {i j : Nat} (hi : i < m.nx.length) (hj : j < m'.nx.length) : mF (prM f m m') (i * m'.nx.length + j) = f (mF m i) (mF m' j) := by
  have h0 : 0 < m'.nx.length := by omega
  have hd : (i * m'.nx.length + j) / m'.nx.length = i := by rw [Nat.mul_comm, Nat.mul_add_div h0, Nat.div_eq_of_lt hj, Nat.add_zero]
  have hr : (i * m'.nx.length + j) % m'.nx.length = j := by rw [Nat.mul_comm, Nat.mul_add_mod, Nat.mod_eq_of_lt hj]
  unfold mF prM
  rw [getD_lt _ _ (by simpa using pr_lt hi hj)]
  simp [hd, hr, mF]
theorem mT_pr (f : Bool → Bool → Bool) {m m' : Mc} {i j v : Nat} (hi : i < m.nx.length) (hj : j < m'.nx.length) (hv : v < 6) : mT (prM f m m') (i * m'.nx.length + j) v = mT m i v * m'.nx.length + mT m' j v := by
  have h0 : 0 < m'.nx.length := by omega
  have hd : (i * m'.nx.length + j) / m'.nx.length = i := by rw [Nat.mul_comm, Nat.mul_add_div h0, Nat.div_eq_of_lt hj, Nat.add_zero]
  have hr : (i * m'.nx.length + j) % m'.nx.length = j := by rw [Nat.mul_comm, Nat.mul_add_mod, Nat.mod_eq_of_lt hj]
  rw [mT, prM_row f (pr_lt hi hj), prR_at m m' _ hv, hd, hr, Int.toNat_natCast]
theorem wT_pr (f : Bool → Bool → Bool) {m m' : Mc} (hm : MOk m) (hm' : MOk m') : ∀ (w : List Nat) {i j : Nat}, i < m.nx.length → j < m'.nx.length → Wd w → wT (prM f m m') (i * m'.nx.length + j) w = wT m i w * m'.nx.length + wT m' j w
  | [], _, _, _, _, _ => rfl
  | v :: w, i, j, hi, hj, hw => by
    rw [wT, mT_pr f hi hj hw.head, wT, wT]
    exact wT_pr f hm hm' w (hm.lt hi hw.head) (hm'.lt hj hw.head) hw.tail
theorem pr_acc (f : Bool → Bool → Bool) {m m' : Mc} (hm : MOk m) (hm' : MOk m') {w : List Nat} (hw : Wd w) : mF (prM f m m') (wT (prM f m m') 0 w) = f (mF m (wT m 0 w)) (mF m' (wT m' 0 w)) := by
  have h := wT_pr f hm hm' w (i := 0) (j := 0) hm.pos hm'.pos hw
  rw [Nat.zero_mul, Nat.zero_add] at h
  rw [h]
  exact mF_pr f (wT_lt hm w hm.pos hw) (wT_lt hm' w hm'.pos hw)
/-- What the law of the complement says. -/
theorem cmp_all {a : Au} {r : List (List Int)} {f : List Int} (h : CmpV a true r f) : vAut a = true ∧ vAut ⟨r, f⟩ = true ∧ (∀ n : Nat, n ≤ 8 → cwB a n + cwB ⟨r, f⟩ n = 6 ^ n) ∧ (∀ xs, vWord xs = true → accB a xs = !accB ⟨r, f⟩ xs) ∧
    ∀ ok2 r2 f2 ok3 r3 f3, CmpV ⟨r, f⟩ ok2 r2 f2 → MinV a ok3 r3 f3 → ok2 = true ∧ ok3 = true ∧ r2 = r3 ∧ f2 = f3 := by
  have hv : vAut a = true := by
    cases hv : vAut a with
    | true => rfl
    | false => rw [CmpV, if_neg (by simp [hv])] at h; cases h.1
  rw [CmpV, if_pos hv] at h
  obtain ⟨r1, f1, hI, hr⟩ := h
  have h8 : r1.length ≤ 8 := by
    by_cases h8 : r1.length ≤ 8
    · exact h8
    · rw [if_neg h8] at hr; cases hr.1
  rw [if_pos h8] at hr
  obtain ⟨-, rfl, rfl⟩ := hr
  have hm := totM_ok hv
  obtain ⟨hvb, hl⟩ := IsMin.aut (negM_ok hm) hI h8
  have hmb := totM_ok hvb
  have hkey : ∀ w, Wd w → mF (totM a) (wT (totM a) 0 w) = !mF (totM ⟨r, f⟩) (wT (totM ⟨r, f⟩) 0 w) := fun w hw => by
    rw [hl w hw, neg_acc hm hm.pos hw, Bool.not_not]
  refine ⟨hv, hvb, fun n hn => ?_, fun xs hx => ?_, fun ok2 r2 f2 ok3 r3 f3 h2 h3 => ?_⟩
  · rw [cw_cnt hv hn, cw_cnt hvb hn]
    exact cnt_neg n 0 0 hkey
  · rw [acc_tot hv hx, acc_tot hvb hx]
    exact hkey _ (vWord_wd hx)
  · rw [CmpV, if_pos hvb] at h2
    rw [MinV, if_pos hv] at h3
    obtain ⟨rr, ff, hI2, hr2⟩ := h2
    obtain ⟨e1, e2⟩ := IsMin.canon (negM_ok hmb) hm (fun w hw => by rw [neg_acc hmb hmb.pos hw, hkey w hw]) hI2 h3.1
    subst e1 e2
    rw [if_pos (tot_small hv h3.1)] at hr2
    exact ⟨hr2.1, h3.2, hr2.2.1, hr2.2.2⟩
/-- What the law of the intersection says. -/
theorem int_all {a b : Au} (hva : vAut a = true) (hvb : vAut b = true) {ok : Bool} {r : List (List Int)} {f : List Int} (h : IntV a b ok r f) :
    (∀ ok2 r2 f2, IntV b a ok2 r2 f2 → ok2 = ok ∧ r2 = r ∧ f2 = f) ∧ (∀ ok2 r2 f2 ok3 r3 f3, IntV a a ok2 r2 f2 → MinV a ok3 r3 f3 → ok2 = true ∧ ok3 = true ∧ r2 = r3 ∧ f2 = f3) ∧
    (ok = true → ∀ xs, vWord xs = true → accB ⟨r, f⟩ xs = (accB a xs && accB b xs)) := by
  have hma := totM_ok hva
  have hmb := totM_ok hvb
  have hok1 := prM_ok and hma hmb (pr2_le hva hvb)
  have hok2 := prM_ok and hmb hma (pr2_le hvb hva)
  have hok3 := prM_ok and hma hma (pr2_le hva hva)
  rw [IntV, if_pos ⟨hva, hvb⟩] at h
  obtain ⟨r1, f1, hI, hr⟩ := h
  refine ⟨fun ok2 r2 f2 h2 => ?_, fun ok2 r2 f2 ok3 r3 f3 h2 h3 => ?_, fun hok xs hx => ?_⟩
  · rw [IntV, if_pos ⟨hvb, hva⟩] at h2
    obtain ⟨r4, f4, hI4, hr4⟩ := h2
    obtain ⟨e1, e2⟩ := IsMin.canon hok2 hok1 (fun w hw => by rw [pr_acc and hmb hma hw, pr_acc and hma hmb hw]; exact Bool.and_comm _ _) hI4 hI
    subst e1 e2
    by_cases h8 : r4.length ≤ 8
    · rw [if_pos h8] at hr hr4
      exact ⟨hr4.1.trans hr.1.symm, hr4.2.1.trans hr.2.1.symm, hr4.2.2.trans hr.2.2.symm⟩
    · rw [if_neg h8] at hr hr4
      exact ⟨hr4.1.trans hr.1.symm, hr4.2.1.trans hr.2.1.symm, hr4.2.2.trans hr.2.2.symm⟩
  · rw [IntV, if_pos ⟨hva, hva⟩] at h2
    rw [MinV, if_pos hva] at h3
    obtain ⟨r4, f4, hI4, hr4⟩ := h2
    obtain ⟨e1, e2⟩ := IsMin.canon hok3 hma (fun w hw => by rw [pr_acc and hma hma hw]; exact Bool.and_self _) hI4 h3.1
    subst e1 e2
    rw [if_pos (tot_small hva h3.1)] at hr4
    exact ⟨hr4.1, h3.2, hr4.2.1, hr4.2.2⟩
  · by_cases h8 : r1.length ≤ 8
    · rw [if_pos h8] at hr
      obtain ⟨-, rfl, rfl⟩ := hr
      obtain ⟨hvx, hl⟩ := IsMin.aut hok1 hI h8
      rw [acc_tot hvx hx, acc_tot hva hx, acc_tot hvb hx, hl _ (vWord_wd hx)]
      exact pr_acc and hma hmb (vWord_wd hx)
    · rw [if_neg h8] at hr
      rw [hr.1] at hok; cases hok
end Go.Proofs.Ytdiedghaoleblaa
