/- Bounds consistency in plain Lean: the program's way and the reference's end in the same domains. -/
import Derived.Test.YtllgicpiddapeaaDoorPropP
namespace Go.Proofs.YtllgicpiddapeaaDoor
open Go.RowKit

/-- The least and the greatest value of a domain. -/
def lowV (d : Int) : Nat := ((List.range 6).find? (fun i => hasB d i)).getD 0
def topV (d : Int) : Nat := ((List.range 6).find? (fun i => hasB d (5 - i))).elim 0 (fun i => 5 - i)
/-- A domain without its bounds, if they are not in k. -/
def edgeV (d k : Int) : Int := sumB (fun v => hasB d v && (hasB k v || (!(v == lowV d) && !(v == topV d))))
/-- A domain without its first and last values that are not in k. -/
def trimV (d k : Int) : Int := sumB (fun v => hasB d v && ((List.range 6).any (fun a => decide (a ≤ v) && (hasB d a && hasB k a)) && (List.range 6).any (fun b => decide (v ≤ b) && (hasB d b && hasB k b))))
theorem sumB_bd (f : Nat → Bool) : 0 ≤ sumB f ∧ sumB f ≤ 63 := by
  unfold sumB
  cases f 0 <;> cases f 1 <;> cases f 2 <;> cases f 3 <;> cases f 4 <;> cases f 5 <;> decide
theorem sumB_has (f : Nat → Bool) {v : Nat} (hv : v < 6) : hasB (sumB f) v = f v := by
  have h : ∀ b0 b1 b2 b3 b4 b5 : Bool, ∀ v : Fin 6, hasB ((if b0 then 1 else 0) + (if b1 then 2 else 0) + (if b2 then 4 else 0) + (if b3 then 8 else 0) + (if b4 then 16 else 0) + (if b5 then 32 else 0)) v = (match v with | 0 => b0 | 1 => b1 | 2 => b2 | 3 => b3 | 4 => b4 | 5 => b5) := by decide +kernel
  have := h (f 0) (f 1) (f 2) (f 3) (f 4) (f 5) ⟨v, hv⟩
  unfold sumB
  rw [this]
  match v, hv with
  | 0, _ => rfl
  | 1, _ => rfl
  | 2, _ => rfl
  | 3, _ => rfl
  | 4, _ => rfl
  | 5, _ => rfl
theorem edgeV_has (d k : Int) {v : Nat} (hv : v < 6) : hasB (edgeV d k) v = (hasB d v && (hasB k v || (!(v == lowV d) && !(v == topV d)))) := sumB_has _ hv
theorem trimV_has (d k : Int) {v : Nat} (hv : v < 6) : hasB (trimV d k) v = (hasB d v && ((List.range 6).any (fun a => decide (a ≤ v) && (hasB d a && hasB k a)) && (List.range 6).any (fun b => decide (v ≤ b) && (hasB d b && hasB k b)))) := sumB_has _ hv
theorem lowV_le {d : Int} (h0 : 0 ≤ d) (h1 : d ≤ 63) {v : Nat} (hv : v < 6) (h : hasB d v = true) : lowV d < 6 ∧ hasB d (lowV d) = true ∧ lowV d ≤ v := by
  have := fin_dv (p := fun d v => !hasB d v || (decide (lowV d < 6) && (hasB d (lowV d) && decide (lowV d ≤ v)))) (by decide +kernel) h0 h1 hv
  simp only [h, Bool.not_true, Bool.false_or, Bool.and_eq_true, decide_eq_true_eq] at this
  exact this
theorem topV_le {d : Int} (h0 : 0 ≤ d) (h1 : d ≤ 63) {v : Nat} (hv : v < 6) (h : hasB d v = true) : topV d < 6 ∧ hasB d (topV d) = true ∧ v ≤ topV d := by
  have := fin_dv (p := fun d v => !hasB d v || (decide (topV d < 6) && (hasB d (topV d) && decide (v ≤ topV d)))) (by decide +kernel) h0 h1 hv
  simp only [h, Bool.not_true, Bool.false_or, Bool.and_eq_true, decide_eq_true_eq] at this
  exact this
/-- A domain whose bounds are in k. -/
def bcV (d k : Int) : Prop := ∀ v, v < 6 → hasB d v = true → hasB k (lowV d) = true ∧ hasB k (topV d) = true
theorem edge_bc {d k : Int} (h0 : 0 ≤ d) (h1 : d ≤ 63) : edgeV d k = d ↔ bcV d k := by
  constructor
  · intro he v hv h
    obtain ⟨l1, l2, l3⟩ := lowV_le h0 h1 hv h
    obtain ⟨t1, t2, t3⟩ := topV_le h0 h1 hv h
    have e1 := edgeV_has d k l1
    have e2 := edgeV_has d k t1
    rw [he, l2] at e1
    rw [he, t2] at e2
    simp at e1 e2
    exact ⟨e1, e2⟩
  · intro hb
    refine dom_ext (sumB_bd _) ⟨h0, h1⟩ fun v hv => ?_
    rw [edgeV_has d k hv]
    cases h : hasB d v with
    | false => rfl
    | true =>
      obtain ⟨b1, b2⟩ := hb v hv h
      by_cases e1 : v = lowV d
      · rw [← e1] at b1; simp [b1]
      · by_cases e2 : v = topV d
        · rw [← e2] at b2; simp [b2]
        · simp [e1, e2]
theorem trim_bc {d k : Int} (h0 : 0 ≤ d) (h1 : d ≤ 63) : trimV d k = d ↔ bcV d k := by
  constructor
  · intro he v hv h
    obtain ⟨l1, l2, l3⟩ := lowV_le h0 h1 hv h
    obtain ⟨t1, t2, t3⟩ := topV_le h0 h1 hv h
    have e1 := trimV_has d k l1
    have e2 := trimV_has d k t1
    rw [he, l2] at e1
    rw [he, t2] at e2
    have e1 := e1.symm
    have e2 := e2.symm
    rw [Bool.true_and, Bool.and_eq_true] at e1 e2
    obtain ⟨a, ha, ha2⟩ := List.any_eq_true.1 e1.1
    obtain ⟨b, hb, hb2⟩ := List.any_eq_true.1 e2.2
    simp only [Bool.and_eq_true, decide_eq_true_eq] at ha2 hb2
    have ha6 := List.mem_range.1 ha
    have hb6 := List.mem_range.1 hb
    have a1 := (lowV_le h0 h1 ha6 ha2.2.1).2.2
    have b1 := (topV_le h0 h1 hb6 hb2.2.1).2.2
    obtain rfl : a = lowV d := by omega
    obtain rfl : b = topV d := by omega
    exact ⟨ha2.2.2, hb2.2.2⟩
  · intro hb
    refine dom_ext (sumB_bd _) ⟨h0, h1⟩ fun v hv => ?_
    rw [trimV_has d k hv]
    cases h : hasB d v with
    | false => rfl
    | true =>
      obtain ⟨b1, b2⟩ := hb v hv h
      obtain ⟨l1, l2, l3⟩ := lowV_le h0 h1 hv h
      obtain ⟨t1, t2, t3⟩ := topV_le h0 h1 hv h
      rw [Bool.true_and, Bool.and_eq_true]
      exact ⟨List.any_eq_true.2 ⟨lowV d, List.mem_range.2 l1, by simp [l2, l3, b1]⟩, List.any_eq_true.2 ⟨topV d, List.mem_range.2 t1, by simp [t2, t3, b2]⟩⟩
/-- A part whose bounds are supported stays. -/
theorem edge_keeps {d k e ke : Int} (hd : 0 ≤ d ∧ d ≤ 63) (he : 0 ≤ e ∧ e ≤ 63) (hsub : ∀ v, v < 6 → hasB e v = true → hasB d v = true) (hk : ∀ v, v < 6 → hasB ke v = true → hasB k v = true) (hb : bcV e ke) :
    ∀ v, v < 6 → hasB e v = true → hasB (edgeV d k) v = true := by
  intro v hv h
  obtain ⟨b1, b2⟩ := hb v hv h
  obtain ⟨l1, l2, l3⟩ := lowV_le he.1 he.2 hv h
  obtain ⟨t1, t2, t3⟩ := topV_le he.1 he.2 hv h
  have hdv := hsub v hv h
  have ld := (lowV_le hd.1 hd.2 l1 (hsub _ l1 l2)).2.2
  have td := (topV_le hd.1 hd.2 t1 (hsub _ t1 t2)).2.2
  rw [edgeV_has d k hv, hdv, Bool.true_and]
  by_cases e1 : v = lowV d
  · have : v = lowV e := by omega
    rw [this, hk _ l1 b1]; rfl
  · by_cases e2 : v = topV d
    · have : v = topV e := by omega
      rw [this, hk _ t1 b2]; rfl
    · simp [e1, e2]
theorem trim_keeps {d k e ke : Int} (he : 0 ≤ e ∧ e ≤ 63) (hsub : ∀ v, v < 6 → hasB e v = true → hasB d v = true) (hk : ∀ v, v < 6 → hasB ke v = true → hasB k v = true) (hb : bcV e ke) :
    ∀ v, v < 6 → hasB e v = true → hasB (trimV d k) v = true := by
  intro v hv h
  obtain ⟨b1, b2⟩ := hb v hv h
  obtain ⟨l1, l2, l3⟩ := lowV_le he.1 he.2 hv h
  obtain ⟨t1, t2, t3⟩ := topV_le he.1 he.2 hv h
  rw [trimV_has d k hv, hsub v hv h, Bool.true_and, Bool.and_eq_true]
  exact ⟨List.any_eq_true.2 ⟨lowV e, List.mem_range.2 l1, by simp [hsub _ l1 l2, l3, hk _ l1 b1]⟩, List.any_eq_true.2 ⟨topV e, List.mem_range.2 t1, by simp [hsub _ t1 t2, t3, hk _ t1 b2]⟩⟩
/-- One constraint, either way (f: edgeV or trimV). -/
def mapF (f : Int → Int → Int) (c : Con) (ds : List Int) : List Int := (List.range ds.length).map fun i => f (at0 ds i) (at0 (filtL c ds) i)
theorem mapF_len (f : Int → Int → Int) (c : Con) (ds : List Int) : (mapF f c ds).length = ds.length := by simp [mapF]
theorem mapF_at (f : Int → Int → Int) (c : Con) (ds : List Int) {i : Nat} (hi : i < ds.length) : at0 (mapF f c ds) i = f (at0 ds i) (at0 (filtL c ds) i) := by
  show List.getD _ _ _ = _
  rw [getD_lt _ _ (by rw [mapF_len]; exact hi)]
  simp [mapF]
def bndK (f : Int → Int → Int) (cs : List Con) (ds : List Int) : Nat → List Int
  | 0 => ds
  | k + 1 => mapF f (con0 cs k) (bndK f cs ds k)
def bndL (f : Int → Int → Int) (cs : List Con) (ds : List Int) : List Int := bndK f cs ds cs.length
/-- What is wanted of f. -/
structure FOk (f : Int → Int → Int) : Prop where
  bd : ∀ d k, 0 ≤ f d k ∧ f d k ≤ 63
  sub : ∀ d k v, v < 6 → hasB (f d k) v = true → hasB d v = true
  bc : ∀ d k, 0 ≤ d → d ≤ 63 → (f d k = d ↔ bcV d k)
  keeps : ∀ d k e ke : Int, (0 ≤ d ∧ d ≤ 63) → (0 ≤ e ∧ e ≤ 63) → (∀ v, v < 6 → hasB e v = true → hasB d v = true) → (∀ v, v < 6 → hasB ke v = true → hasB k v = true) → bcV e ke → ∀ v, v < 6 → hasB e v = true → hasB (f d k) v = true
theorem edgeOk : FOk edgeV := ⟨fun _ _ => sumB_bd _, fun d k v hv h => by rw [edgeV_has d k hv, Bool.and_eq_true] at h; exact h.1, fun _ _ h0 h1 => edge_bc h0 h1, fun _ _ _ _ hd he hs hk hb => edge_keeps hd he hs hk hb⟩
theorem trimOk : FOk trimV := ⟨fun _ _ => sumB_bd _, fun d k v hv h => by rw [trimV_has d k hv, Bool.and_eq_true] at h; exact h.1, fun _ _ h0 h1 => trim_bc h0 h1, fun _ _ _ _ _ he hs hk hb => trim_keeps he hs hk hb⟩
section
variable {cs : List Con} {n : Nat} {f : Int → Int → Int} (hf : FOk f)
include hf
theorem mapF_good {ds : List Int} (h : GoodD cs n ds) (c : Con) : GoodD cs n (mapF f c ds) ∧ SubD (mapF f c ds) ds := by
  refine ⟨⟨by rw [mapF_len]; exact h.1, fun i hi => ?_, h.2.2⟩, by rw [mapF_len], fun i hi v hv hh => ?_⟩
  · rw [mapF_len] at hi
    rw [mapF_at f c ds hi]
    exact hf.bd _ _
  · rw [mapF_len] at hi
    rw [mapF_at f c ds hi] at hh
    exact hf.sub _ _ v hv hh
theorem bndK_good {ds : List Int} (h : GoodD cs n ds) : ∀ k, GoodD cs n (bndK f cs ds k) ∧ SubD (bndK f cs ds k) ds
  | 0 => ⟨h, SubD.refl _⟩
  | k + 1 => by
    obtain ⟨h1, h2⟩ := bndK_good h k
    obtain ⟨h3, h4⟩ := mapF_good hf h1 (con0 cs k)
    exact ⟨h3, h4.trans h2⟩
theorem bnd_ok : StOK (bndL f cs) (GoodD cs n) n := ⟨fun _ h => h.2.1, fun _ h => h.1, fun _ h => (bndK_good hf h _).2, fun _ h => (bndK_good hf h _).1⟩
/-- Every constraint supports the bounds. -/
theorem bnd_fix {ds : List Int} (h : GoodD cs n ds) : bndL f cs ds = ds ↔ ∀ k, k < cs.length → ∀ i, i < n → bcV (at0 ds i) (at0 (filtL (con0 cs k) ds) i) := by
  have hsubk : ∀ j k, SubD (bndK f cs ds (j + k)) (bndK f cs ds j) := by
    intro j k
    induction k with
    | zero => exact SubD.refl _
    | succ k ih => exact ((mapF_good hf (bndK_good hf h (j + k)).1 (con0 cs (j + k))).2).trans ih
  constructor
  · intro he k hk i hi
    have e : ∀ j, j ≤ cs.length → bndK f cs ds j = ds := fun j hj => by
      obtain ⟨h1, h2⟩ := bndK_good hf h j
      have h3 := hsubk j (cs.length - j)
      rw [show j + (cs.length - j) = cs.length by omega] at h3
      have h4 : bndK f cs ds cs.length = ds := he
      rw [h4] at h3
      exact SubD.antisymm h1.2.1 h.2.1 h2 h3
    have h1 := e (k + 1) (by omega)
    rw [bndK, e k (by omega)] at h1
    have hb := h.2.1 i (by rw [h.1]; exact hi)
    rw [← hf.bc _ _ hb.1 hb.2, ← mapF_at f (con0 cs k) ds (by rw [h.1]; exact hi), h1]
  · intro hc
    have e : ∀ j, j ≤ cs.length → bndK f cs ds j = ds := by
      intro j
      induction j with
      | zero => intro _; rfl
      | succ j ih =>
        intro hj
        rw [bndK, ih (by omega)]
        refine List.ext_getElem (by rw [mapF_len]) fun i h1 h2 => ?_
        have h2' : i < n := by rw [← h.1]; exact h2
        have hb := h.2.1 i h2
        have := (hf.bc _ _ hb.1 hb.2).2 (hc j (by omega) i h2')
        rw [← mapF_at f (con0 cs j) ds h2] at this
        unfold at0 at this
        rwa [getD_lt _ _ h1, getD_lt _ _ h2] at this
    exact e _ (Nat.le_refl _)
/-- Domains whose bounds are supported stay within. -/
theorem bnd_keeps {ds es : List Int} (h : GoodD cs n ds) (he : GoodD cs n es) (hs : SubD es ds) (hb : ∀ k, k < cs.length → ∀ i, i < n → bcV (at0 es i) (at0 (filtL (con0 cs k) es) i)) : SubD es (bndL f cs ds) := by
  have : ∀ k, k ≤ cs.length → SubD es (bndK f cs ds k) := by
    intro k
    induction k with
    | zero => intro _; exact hs
    | succ k ih =>
      intro hk
      obtain ⟨h1, h2⟩ := bndK_good hf h k
      have hsk := ih (by omega)
      have hmono : SubD (filtL (con0 cs k) es) (filtL (con0 cs k) (bndK f cs ds k)) := filtP_mono (by rw [he.1]; exact vCon_var (he.2.2 k (by omega))) hsk
      refine ⟨by rw [bndK, mapF_len, h1.1, he.1], fun i hi v hv hh => ?_⟩
      have hi' : i < n := by rw [← he.1]; exact hi
      rw [bndK, mapF_at f _ _ (by rw [h1.1]; exact hi')]
      have hfl : (filtL (con0 cs k) es).length = n := (filtP_len _ _ _).trans he.1
      exact hf.keeps _ _ _ _ (h1.2.1 i (by rw [h1.1]; exact hi')) (he.2.1 i hi) (fun u hu hu2 => hsk.2 i hi u hu hu2) (fun u hu hu2 => hmono.2 i (by rw [hfl]; exact hi') u hu hu2) (hb k (by omega) i hi') v hv hh
  exact this _ (Nat.le_refl _)
end
theorem sub_hasI2 {a b : List Int} (h : SubD a b) (ha : DomL a) (hb : hasI b 0 = true) : hasI a 0 = true := by
  obtain ⟨i, hi, e⟩ := hasI_iff.1 hb
  have hi' : i < a.length := by rw [h.1]; exact hi
  refine hasI_iff.2 ⟨i, hi', ?_⟩
  refine dom_ext (ha i hi') (by omega) fun v hv => ?_
  rw [hasB_zero]
  cases hh : hasB (at0 a i) v with
  | false => rfl
  | true =>
    have := h.2 i hi' v hv hh
    rw [e, hasB_zero] at this
    cases this
section
variable {cs : List Con} {n : Nat} {s t : List Int → List Int}
theorem itr_keeps (ht : StOK t (GoodD cs n) n) (kt : ∀ ds es, GoodD cs n ds → GoodD cs n es → SubD es ds → t es = es → SubD es (t ds)) {ds es : List Int} (h : GoodD cs n ds) (he : GoodD cs n es) (hs : SubD es ds) (hf : t es = es) : ∀ j, GoodD cs n (itr t j ds) ∧ SubD es (itr t j ds)
  | 0 => ⟨h, hs⟩
  | j + 1 => by
    obtain ⟨h1, h2⟩ := itr_keeps ht kt h he hs hf j
    exact ⟨ht.stay _ h1, kt _ _ h1 he h2 hf⟩
theorem itr_sub (ht : StOK t (GoodD cs n) n) {ds : List Int} (h : GoodD cs n ds) : ∀ j, GoodD cs n (itr t j ds) ∧ SubD (itr t j ds) ds
  | 0 => ⟨h, SubD.refl _⟩
  | j + 1 => by
    obtain ⟨h1, h2⟩ := itr_sub ht h j
    exact ⟨ht.stay _ h1, (ht.sub _ h1).trans h2⟩
/-- Two ways of rounds with the same ends. -/
theorem fix_same (hs : StOK s (GoodD cs n) n) (ht : StOK t (GoodD cs n) n) (hst : ∀ es, GoodD cs n es → (s es = es ↔ t es = es))
    (ks : ∀ ds es, GoodD cs n ds → GoodD cs n es → SubD es ds → s es = es → SubD es (s ds)) (kt : ∀ ds es, GoodD cs n ds → GoodD cs n es → SubD es ds → t es = es → SubD es (t ds)) (h4 : n ≤ 4) {ds : List Int} (h : GoodD cs n ds) : fixL s 300 ds = fixL t 300 ds := by
  have hsum : sumL ds < 300 := by have := (sumL_bd ds h.2.1).2; have := h.1; omega
  obtain ⟨i, hgi, hci⟩ := fixL_orbit hs 300 ds h hsum
  obtain ⟨j, hgj, hcj⟩ := fixL_orbit ht 300 ds h hsum
  rcases hci with ⟨ei, ri⟩ | ⟨ei, fi, ri⟩
  · rcases hcj with ⟨ej, rj⟩ | ⟨ej, fj, rj⟩
    · rw [ri, rj]
    · have := itr_keeps hs ks h hgj (itr_sub ht h j).2 ((hst _ hgj).2 fj) i
      rw [sub_hasI2 this.2 hgj.2.1 ei] at ej; cases ej
  · rcases hcj with ⟨ej, rj⟩ | ⟨ej, fj, rj⟩
    · have := itr_keeps ht kt h hgi (itr_sub hs h i).2 ((hst _ hgi).1 fi) j
      rw [sub_hasI2 this.2 hgi.2.1 ej] at ei; cases ei
    · rw [ri, rj]
      have h1 := itr_keeps ht kt h hgi (itr_sub hs h i).2 ((hst _ hgi).1 fi) j
      have h2 := itr_keeps hs ks h hgj (itr_sub ht h j).2 ((hst _ hgj).2 fj) i
      exact SubD.antisymm hgi.2.1 hgj.2.1 h1.2 h2.2
/-- The program's bounds and the reference's. -/
theorem bnd_same (h4 : n ≤ 4) {ds : List Int} (h : GoodD cs n ds) : fixL (bndL trimV cs) 300 ds = fixL (bndL edgeV cs) 300 ds :=
  fix_same (bnd_ok trimOk) (bnd_ok edgeOk) (fun es he => by rw [bnd_fix trimOk he, bnd_fix edgeOk he])
    (fun ds es hd he hs hf => bnd_keeps trimOk hd he hs ((bnd_fix trimOk he).1 hf)) (fun ds es hd he hs hf => bnd_keeps edgeOk hd he hs ((bnd_fix edgeOk he).1 hf)) h4 h
end
end Go.Proofs.YtllgicpiddapeaaDoor
