/- Bounds consistency in plain Lean: the program's way and the reference's end in the same domains. -/
import Derived.Test.YtkjbefokgmiehaaGreatDoorPrpZ
import Derived.Test.YtkjbefokgmiehaaGreatDoorShvI
import Derived.Test.YtkjbefokgmiehaaGreatDoorCompI
import Derived.Test.YtkjbefokgmiehaaGreatDoorSpD
namespace Go.Proofs.YtkjbefokgmiehaaGreatDoor
open Go.RowKit

/-- The least and the greatest value of a domain. -/
def lowV (d : Int) : Nat := ((List.range 6).find? (fun i => hasB d i)).getD 0
def topV (d : Int) : Nat := ((List.range 6).find? (fun i => hasB d (5 - i))).elim 0 (fun i => 5 - i)
/-- A domain without its bounds, if they are not in k. -/
def edgeV (d k : Int) : Int := sumB (fun v => hasB d v && (hasB k v || (!(v == lowV d) && !(v == topV d))))
/-- A domain without its first and last values that are not in k. -/
def trimV (d k : Int) : Int := sumB (fun v => hasB d v && ((List.range 6).any (fun a => decide (a ≤ v) && (hasB d a && hasB k a)) && (List.range 6).any (fun b => decide (v ≤ b) && (hasB d b && hasB k b))))
theorem sumB_bd (f : Nat → Bool) : 0 ≤ sumB f ∧ sumB f ≤ 63 := by
  unfold sumB
  cases f 0 <;> cases f 1 <;> cases f 2 <;> cases f 3 <;> cases f 4 <;> cases f 5 <;> decide
theorem sumB_has (f : Nat → Bool) {v : Nat} (hv : v < 6) : hasB (sumB f) v = f v := by
  have h : ∀ b0 b1 b2 b3 b4 b5 : Bool, ∀ v : Fin 6, hasB ((if b0 then 1 else 0) + (if b1 then 2 else 0) + (if b2 then 4 else 0) + (if b3 then 8 else 0) + (if b4 then 16 else 0) + (if b5 then 32 else 0)) v = (match v with | 0 => b0 | 1 => b1 | 2 => b2 | 3 => b3 | 4 => b4 | 5 => b5) := by decide +kernel
  have := h (f 0) (f 1) (f 2) (f 3) (f 4) (f 5) ⟨v, hv⟩
  unfold sumB
  rw [this]
  match v, hv with
  | 0, _ => rfl
  | 1, _ => rfl
  | 2, _ => rfl
  | 3, _ => rfl
  | 4, _ => rfl
  | 5, _ => rfl
theorem edgeV_has (d k : Int) {v : Nat} (hv : v < 6) : hasB (edgeV d k) v = (hasB d v && (hasB k v || (!(v == lowV d) && !(v == topV d)))) := sumB_has _ hv
theorem trimV_has (d k : Int) {v : Nat} (hv : v < 6) : hasB (trimV d k) v = (hasB d v && ((List.range 6).any (fun a => decide (a ≤ v) && (hasB d a && hasB k a)) && (List.range 6).any (fun b => decide (v ≤ b) && (hasB d b && hasB k b)))) := sumB_has _ hv
theorem lowV_le {d : Int} (h0 : 0 ≤ d) (h1 : d ≤ 63) {v : Nat} (hv : v < 6) (h : hasB d v = true) : lowV d < 6 ∧ hasB d (lowV d) = true ∧ lowV d ≤ v := by
  have := fin_dv (p := fun d v => !hasB d v || (decide (lowV d < 6) && (hasB d (lowV d) && decide (lowV d ≤ v)))) (by decide +kernel) h0 h1 hv
  simp only [h, Bool.not_true, Bool.false_or, Bool.and_eq_true, decide_eq_true_eq] at this
  exact this
theorem topV_le {d : Int} (h0 : 0 ≤ d) (h1 : d ≤ 63) {v : Nat} (hv : v < 6) (h : hasB d v = true) : topV d < 6 ∧ hasB d (topV d) = true ∧ v ≤ topV d := by
  have := fin_dv (p := fun d v => !hasB d v || (decide (topV d < 6) && (hasB d (topV d) && decide (v ≤ topV d)))) (by decide +kernel) h0 h1 hv
  simp only [h, Bool.not_true, Bool.false_or, Bool.and_eq_true, decide_eq_true_eq] at this
  exact this
/-- A domain whose bounds are in k. -/
def bcV (d k : Int) : Prop := ∀ v, v < 6 → hasB d v = true → hasB k (lowV d) = true ∧ hasB k (topV d) = true
theorem edge_bc {d k : Int} (h0 : 0 ≤ d) (h1 : d ≤ 63) : edgeV d k = d ↔ bcV d k := by
  constructor
  · intro he v hv h
    obtain ⟨l1, l2, l3⟩ := lowV_le h0 h1 hv h
    obtain ⟨t1, t2, t3⟩ := topV_le h0 h1 hv h
    have e1 := edgeV_has d k l1
    have e2 := edgeV_has d k t1
    rw [he, l2] at e1
    rw [he, t2] at e2
    simp at e1 e2
    exact ⟨e1, e2⟩
  · intro hb
    refine dom_ext (sumB_bd _) ⟨h0, h1⟩ fun v hv => ?_
    rw [edgeV_has d k hv]
    cases h : hasB d v with
    | false => rfl
    | true =>
      obtain ⟨b1, b2⟩ := hb v hv h
      by_cases e1 : v = lowV d
      · rw [← e1] at b1; simp [b1]
      · by_cases e2 : v = topV d
        · rw [← e2] at b2; simp [b2]
        · simp [e1, e2]
theorem trim_bc {d k : Int} (h0 : 0 ≤ d) (h1 : d ≤ 63) : trimV d k = d ↔ bcV d k := by
  constructor
  · intro he v hv h
    obtain ⟨l1, l2, l3⟩ := lowV_le h0 h1 hv h
    obtain ⟨t1, t2, t3⟩ := topV_le h0 h1 hv h
    have e1 := trimV_has d k l1
    have e2 := trimV_has d k t1
    rw [he, l2] at e1
    rw [he, t2] at e2
    have e1 := e1.symm
    have e2 := e2.symm
    rw [Bool.true_and, Bool.and_eq_true] at e1 e2
    obtain ⟨a, ha, ha2⟩ := List.any_eq_true.1 e1.1
    obtain ⟨b, hb, hb2⟩ := List.any_eq_true.1 e2.2
    simp only [Bool.and_eq_true, decide_eq_true_eq] at ha2 hb2
    have ha6 := List.mem_range.1 ha
    have hb6 := List.mem_range.1 hb
    have a1 := (lowV_le h0 h1 ha6 ha2.2.1).2.2
    have b1 := (topV_le h0 h1 hb6 hb2.2.1).2.2
    obtain rfl : a = lowV d := by omega
    obtain rfl : b = topV d := by omega
    exact ⟨ha2.2.2, hb2.2.2⟩
  · intro hb
    refine dom_ext (sumB_bd _) ⟨h0, h1⟩ fun v hv => ?_
    rw [trimV_has d k hv]
    cases h : hasB d v with
    | false => rfl
    | true =>
      obtain ⟨b1, b2⟩ := hb v hv h
      obtain ⟨l1, l2, l3⟩ := lowV_le h0 h1 hv h
      obtain ⟨t1, t2, t3⟩ := topV_le h0 h1 hv h
      rw [Bool.true_and, Bool.and_eq_true]
      exact ⟨List.any_eq_true.2 ⟨lowV d, List.mem_range.2 l1, by simp [l2, l3, b1]⟩, List.any_eq_true.2 ⟨topV d, List.mem_range.2 t1, by simp [t2, t3, b2]⟩⟩
/-- A part whose bounds are supported stays. -/
theorem edge_keeps {d k e ke : Int} (hd : 0 ≤ d ∧ d ≤ 63) (he : 0 ≤ e ∧ e ≤ 63) (hsub : ∀ v, v < 6 → hasB e v = true → hasB d v = true) (hk : ∀ v, v < 6 → hasB ke v = true → hasB k v = true) (hb : bcV e ke) :
    ∀ v, v < 6 → hasB e v = true → hasB (edgeV d k) v = true := by
  intro v hv h
  obtain ⟨b1, b2⟩ := hb v hv h
  obtain ⟨l1, l2, l3⟩ := lowV_le he.1 he.2 hv h
  obtain ⟨t1, t2, t3⟩ := topV_le he.1 he.2 hv h
  have hdv := hsub v hv h
  have ld := (lowV_le hd.1 hd.2 l1 (hsub _ l1 l2)).2.2
  have td := (topV_le hd.1 hd.2 t1 (hsub _ t1 t2)).2.2
  rw [edgeV_has d k hv, hdv, Bool.true_and]
  by_cases e1 : v = lowV d
  · have : v = lowV e := by omega
    rw [this, hk _ l1 b1]; rfl
  · by_cases e2 : v = topV d
    · have : v = topV e := by omega
      rw [this, hk _ t1 b2]; rfl
    · simp [e1, e2]
theorem trim_keeps {d k e ke : Int} (he : 0 ≤ e ∧ e ≤ 63) (hsub : ∀ v, v < 6 → hasB e v = true → hasB d v = true) (hk : ∀ v, v < 6 → hasB ke v = true → hasB k v = true) (hb : bcV e ke) :
    ∀ v, v < 6 → hasB e v = true → hasB (trimV d k) v = true := by
  intro v hv h
  obtain ⟨b1, b2⟩ := hb v hv h
  obtain ⟨l1, l2, l3⟩ := lowV_le he.1 he.2 hv h
  obtain ⟨t1, t2, t3⟩ := topV_le he.1 he.2 hv h
  rw [trimV_has d k hv, hsub v hv h, Bool.true_and, Bool.and_eq_true]
  exact ⟨List.any_eq_true.2 ⟨lowV e, List.mem_range.2 l1, by simp [hsub _ l1 l2, l3, hk _ l1 b1]⟩, List.any_eq_true.2 ⟨topV e, List.mem_range.2 t1, by simp [hsub _ t1 t2, t3, hk _ t1 b2]⟩⟩
/-- One constraint, either way (f: edgeV or trimV). -/
def mapF (f : Int → Int → Int) (c : Con) (ds : List Int) : List Int := (List.range ds.length).map fun i => f (at0 ds i) (at0 (filtL c ds) i)
theorem mapF_len (f : Int → Int → Int) (c : Con) (ds : List Int) : (mapF f c ds).length = ds.length := by simp [mapF]
theorem mapF_at (f : Int → Int → Int) (c : Con) (ds : List Int) {i : Nat} (hi : i < ds.length) : at0 (mapF f c ds) i = f (at0 ds i) (at0 (filtL c ds) i) := by
  show List.getD _ _ _ = _
  rw [getD_lt _ _ (by rw [mapF_len]; exact hi)]
  simp [mapF]
def bndK (f : Int → Int → Int) (cs : List Con) (ds : List Int) : Nat → List Int
  | 0 => ds
  | k + 1 => mapF f (con0 cs k) (bndK f cs ds k)
def bndL (f : Int → Int → Int) (cs : List Con) (ds : List Int) : List Int := bndK f cs ds cs.length
/-- What is wanted of f. -/
structure FOk (f : Int → Int → Int) : Prop where
  bd : ∀ d k, 0 ≤ f d k ∧ f d k ≤ 63
  sub : ∀ d k v, v < 6 → hasB (f d k) v = true → hasB d v = true
  bc : ∀ d k, 0 ≤ d → d ≤ 63 → (f d k = d ↔ bcV d k)
  keeps : ∀ d k e ke : Int, (0 ≤ d ∧ d ≤ 63) → (0 ≤ e ∧ e ≤ 63) → (∀ v, v < 6 → hasB e v = true → hasB d v = true) → (∀ v, v < 6 → hasB ke v = true → hasB k v = true) → bcV e ke → ∀ v, v < 6 → hasB e v = true → hasB (f d k) v = true
theorem edgeOk : FOk edgeV := ⟨fun _ _ => sumB_bd _, fun d k v hv h => by rw [edgeV_has d k hv, Bool.and_eq_true] at h; exact h.1, fun _ _ h0 h1 => edge_bc h0 h1, fun _ _ _ _ hd he hs hk hb => edge_keeps hd he hs hk hb⟩
theorem trimOk : FOk trimV := ⟨fun _ _ => sumB_bd _, fun d k v hv h => by rw [trimV_has d k hv, Bool.and_eq_true] at h; exact h.1, fun _ _ h0 h1 => trim_bc h0 h1, fun _ _ _ _ _ he hs hk hb => trim_keeps he hs hk hb⟩
section
variable {cs : List Con} {n : Nat} {f : Int → Int → Int} (hf : FOk f)
include hf
theorem mapF_good {ds : List Int} (h : GoodD cs n ds) (c : Con) : GoodD cs n (mapF f c ds) ∧ SubD (mapF f c ds) ds := by
  refine ⟨⟨by rw [mapF_len]; exact h.1, fun i hi => ?_, h.2.2⟩, by rw [mapF_len], fun i hi v hv hh => ?_⟩
  · rw [mapF_len] at hi
    rw [mapF_at f c ds hi]
    exact hf.bd _ _
  · rw [mapF_len] at hi
    rw [mapF_at f c ds hi] at hh
    exact hf.sub _ _ v hv hh
theorem bndK_good {ds : List Int} (h : GoodD cs n ds) : ∀ k, GoodD cs n (bndK f cs ds k) ∧ SubD (bndK f cs ds k) ds
  | 0 => ⟨h, SubD.refl _⟩
  | k + 1 => by
    obtain ⟨h1, h2⟩ := bndK_good h k
    obtain ⟨h3, h4⟩ := mapF_good hf h1 (con0 cs k)
    exact ⟨h3, h4.trans h2⟩
theorem bnd_ok : StOK (bndL f cs) (GoodD cs n) n := ⟨fun _ h => h.2.1, fun _ h => h.1, fun _ h => (bndK_good hf h _).2, fun _ h => (bndK_good hf h _).1⟩
/-- Every constraint supports the bounds. -/
theorem bnd_fix {ds : List Int} (h : GoodD cs n ds) : bndL f cs ds = ds ↔ ∀ k, k < cs.length → ∀ i, i < n → bcV (at0 ds i) (at0 (filtL (con0 cs k) ds) i) := by
  have hsubk : ∀ j k, SubD (bndK f cs ds (j + k)) (bndK f cs ds j) := by
    intro j k
    induction k with
    | zero => exact SubD.refl _
    | succ k ih => exact ((mapF_good hf (bndK_good hf h (j + k)).1 (con0 cs (j + k))).2).trans ih
  constructor
  · intro he k hk i hi
    have e : ∀ j, j ≤ cs.length → bndK f cs ds j = ds := fun j hj => by
      obtain ⟨h1, h2⟩ := bndK_good hf h j
      have h3 := hsubk j (cs.length - j)
      rw [show j + (cs.length - j) = cs.length by omega] at h3
      have h4 : bndK f cs ds cs.length = ds := he
      rw [h4] at h3
      exact SubD.antisymm h1.2.1 h.2.1 h2 h3
    have h1 := e (k + 1) (by omega)
    rw [bndK, e k (by omega)] at h1
    have hb := h.2.1 i (by rw [h.1]; exact hi)
    rw [← hf.bc _ _ hb.1 hb.2, ← mapF_at f (con0 cs k) ds (by rw [h.1]; exact hi), h1]
  · intro hc
    have e : ∀ j, j ≤ cs.length → bndK f cs ds j = ds := by
      intro j
      induction j with
      | zero => intro _; rfl
      | succ j ih =>
        intro hj
        rw [bndK, ih (by omega)]
        refine List.ext_getElem (by rw [mapF_len]) fun i h1 h2 => ?_
        have h2' : i < n := by rw [← h.1]; exact h2
        have hb := h.2.1 i h2
        have := (hf.bc _ _ hb.1 hb.2).2 (hc j (by omega) i h2')
        rw [← mapF_at f (con0 cs j) ds h2] at this
        unfold at0 at this
        rwa [getD_lt _ _ h1, getD_lt _ _ h2] at this
    exact e _ (Nat.le_refl _)
/-- Domains whose bounds are supported stay within. -/
theorem bnd_keeps {ds es : List Int} (h : GoodD cs n ds) (he : GoodD cs n es) (hs : SubD es ds) (hb : ∀ k, k < cs.length → ∀ i, i < n → bcV (at0 es i) (at0 (filtL (con0 cs k) es) i)) : SubD es (bndL f cs ds) := by
  have : ∀ k, k ≤ cs.length → SubD es (bndK f cs ds k) := by
    intro k
    induction k with
    | zero => intro _; exact hs
    | succ k ih =>
      intro hk
      obtain ⟨h1, h2⟩ := bndK_good hf h k
      have hsk := ih (by omega)
      have hmono : SubD (filtL (con0 cs k) es) (filtL (con0 cs k) (bndK f cs ds k)) := filtP_mono (by rw [he.1]; exact vCon_var (he.2.2 k (by omega))) hsk
      refine ⟨by rw [bndK, mapF_len, h1.1, he.1], fun i hi v hv hh => ?_⟩
      have hi' : i < n := by rw [← he.1]; exact hi
      rw [bndK, mapF_at f _ _ (by rw [h1.1]; exact hi')]
      have hfl : (filtL (con0 cs k) es).length = n := (filtP_len _ _ _).trans he.1
      exact hf.keeps _ _ _ _ (h1.2.1 i (by rw [h1.1]; exact hi')) (he.2.1 i hi) (fun u hu hu2 => hsk.2 i hi u hu hu2) (fun u hu hu2 => hmono.2 i (by rw [hfl]; exact hi') u hu hu2) (hb k (by omega) i hi') v hv hh
  exact this _ (Nat.le_refl _)
end
theorem sub_hasI2 {a b : List Int} (h : SubD a b) (ha : DomL a) (hb : hasI b 0 = true) : hasI a 0 = true := by
  obtain ⟨i, hi, e⟩ := hasI_iff.1 hb
  have hi' : i < a.length := by rw [h.1]; exact hi
  refine hasI_iff.2 ⟨i, hi', ?_⟩
  refine dom_ext (ha i hi') (by omega) fun v hv => ?_
  rw [hasB_zero]
  cases hh : hasB (at0 a i) v with
  | false => rfl
  | true =>
    have := h.2 i hi' v hv hh
    rw [e, hasB_zero] at this
    cases this
section
variable {cs : List Con} {n : Nat} {s t : List Int → List Int}
theorem itr_keeps (ht : StOK t (GoodD cs n) n) (kt : ∀ ds es, GoodD cs n ds → GoodD cs n es → SubD es ds → t es = es → SubD es (t ds)) {ds es : List Int} (h : GoodD cs n ds) (he : GoodD cs n es) (hs : SubD es ds) (hf : t es = es) : ∀ j, GoodD cs n (itr t j ds) ∧ SubD es (itr t j ds)
  | 0 => ⟨h, hs⟩
  | j + 1 => by
    obtain ⟨h1, h2⟩ := itr_keeps ht kt h he hs hf j
    exact ⟨ht.stay _ h1, kt _ _ h1 he h2 hf⟩
theorem itr_sub (ht : StOK t (GoodD cs n) n) {ds : List Int} (h : GoodD cs n ds) : ∀ j, GoodD cs n (itr t j ds) ∧ SubD (itr t j ds) ds
  | 0 => ⟨h, SubD.refl _⟩
  | j + 1 => by
    obtain ⟨h1, h2⟩ := itr_sub ht h j
    exact ⟨ht.stay _ h1, (ht.sub _ h1).trans h2⟩
/-- Two ways of rounds with the same ends. -/
theorem fix_same (hs : StOK s (GoodD cs n) n) (ht : StOK t (GoodD cs n) n) (hst : ∀ es, GoodD cs n es → (s es = es ↔ t es = es))
    (ks : ∀ ds es, GoodD cs n ds → GoodD cs n es → SubD es ds → s es = es → SubD es (s ds)) (kt : ∀ ds es, GoodD cs n ds → GoodD cs n es → SubD es ds → t es = es → SubD es (t ds)) (h4 : n ≤ 4) {ds : List Int} (h : GoodD cs n ds) : fixL s 300 ds = fixL t 300 ds := by
  have hsum : sumL ds < 300 := by have := (sumL_bd ds h.2.1).2; have := h.1; omega
  obtain ⟨i, hgi, hci⟩ := fixL_orbit hs 300 ds h hsum
  obtain ⟨j, hgj, hcj⟩ := fixL_orbit ht 300 ds h hsum
  rcases hci with ⟨ei, ri⟩ | ⟨ei, fi, ri⟩
  · rcases hcj with ⟨ej, rj⟩ | ⟨ej, fj, rj⟩
    · rw [ri, rj]
    · have := itr_keeps hs ks h hgj (itr_sub ht h j).2 ((hst _ hgj).2 fj) i
      rw [sub_hasI2 this.2 hgj.2.1 ei] at ej; cases ej
  · rcases hcj with ⟨ej, rj⟩ | ⟨ej, fj, rj⟩
    · have := itr_keeps ht kt h hgi (itr_sub hs h i).2 ((hst _ hgi).1 fi) j
      rw [sub_hasI2 this.2 hgi.2.1 ej] at ei; cases ei
    · rw [ri, rj]
      have h1 := itr_keeps ht kt h hgi (itr_sub hs h i).2 ((hst _ hgi).1 fi) j
      have h2 := itr_keeps hs ks h hgj (itr_sub ht h j).2 ((hst _ hgj).2 fj) i
      exact SubD.antisymm hgi.2.1 hgj.2.1 h1.2 h2.2
/-- The program's bounds and the reference's. -/
theorem bnd_same (h4 : n ≤ 4) {ds : List Int} (h : GoodD cs n ds) : fixL (bndL trimV cs) 300 ds = fixL (bndL edgeV cs) 300 ds :=
  fix_same (bnd_ok trimOk) (bnd_ok edgeOk) (fun es he => by rw [bnd_fix trimOk he, bnd_fix edgeOk he])
    (fun ds es hd he hs hf => bnd_keeps trimOk hd he hs ((bnd_fix trimOk he).1 hf)) (fun ds es hd he hs hf => bnd_keeps edgeOk hd he hs ((bnd_fix edgeOk he).1 hf)) h4 h
end
end Go.Proofs.YtkjbefokgmiehaaGreatDoor
/- Bounds consistency: the walks of both sides. -/
namespace Go.Proofs.YtkjbefokgmiehaaGreatDoor
open Go.RowKit

/-- The sum of the values at the places lo .. hi-1 of a domain's list. -/
def sumR (d : Int) (lo : Nat) : Nat → Int
  | 0 => 0
  | k + 1 => sumR d lo k + 2 ^ (at0 (domL d) (lo + k)).toNat
theorem sumR_has {d : Int} (h0 : 0 ≤ d) (h1 : d ≤ 63) {lo k : Nat} (hk : lo + k ≤ (domL d).length) : sumR d lo k = sumB (fun v => (List.range 6).any fun t => decide (lo ≤ t) && (decide (t < lo + k) && (at0 (domL d) t == v))) := by
  have hl := domL_len d
  have : ∀ n : Fin 64, ∀ lo : Fin 7, ∀ k : Fin 7, lo.val + k.val ≤ (domL (n.val : Int)).length → sumR (n.val : Int) lo.val k.val = sumB (fun v => (List.range 6).any fun t => decide (lo.val ≤ t) && (decide (t < lo.val + k.val) && (at0 (domL (n.val : Int)) t == v))) := by decide +kernel
  obtain ⟨n, rfl⟩ : ∃ n : Nat, d = n := ⟨d.toNat, by omega⟩
  exact this ⟨n, by omega⟩ ⟨lo, by omega⟩ ⟨k, by omega⟩ hk
theorem sumR_bd {d : Int} (h0 : 0 ≤ d) (h1 : d ≤ 63) {lo k : Nat} (hk : lo + k ≤ (domL d).length) : 0 ≤ sumR d lo k ∧ sumR d lo k ≤ 63 := by
  rw [sumR_has h0 h1 hk]; exact sumB_bd _
/-- What the three loops of trim leave. -/
theorem trim_sum {d k : Int} (h0 : 0 ≤ d) (h1 : d ≤ 63) {lo m : Nat} (hlm : lo ≤ m) (hm : m ≤ (domL d).length)
    (n1 : ∀ j, j < lo → hasB k (at0 (domL d) j).toNat = false) (n2 : ∀ j, m ≤ j → j < (domL d).length → hasB k (at0 (domL d) j).toNat = false)
    (p1 : lo < (domL d).length → hasB k (at0 (domL d) lo).toNat = true) (p2 : lo < m → hasB k (at0 (domL d) (m - 1)).toNat = true) : sumR d lo (m - lo) = trimV d k := by
  rw [sumR_has h0 h1 (by omega)]
  unfold trimV
  have hl := domL_len d
  have hat : ∀ v, v < 6 → hasB d v = true → ∃ t, t < (domL d).length ∧ at0 (domL d) t = v := fun v hv hh => by
    have := (domL_in d v).2 ⟨hv, hh⟩
    obtain ⟨t, ht, e⟩ := List.getElem_of_mem this
    exact ⟨t, ht, by rw [at0, getD_lt _ _ ht, e]⟩
  have hmono : ∀ s t, s < (domL d).length → t < (domL d).length → at0 (domL d) s ≤ at0 (domL d) t → s ≤ t := fun s t hs ht hle => by
    by_cases h : s ≤ t
    · exact h
    · have := domL_lt d (i := t) (j := s) (by omega) hs; omega
  have hmono2 : ∀ s t, s ≤ t → t < (domL d).length → at0 (domL d) s ≤ at0 (domL d) t := fun s t hst ht => by
    by_cases h : s = t
    · subst h; omega
    · have := domL_lt d (i := s) (j := t) (by omega) ht; omega
  refine dom_ext (sumB_bd _) (sumB_bd _) fun v hv => ?_
  rw [sumB_has _ hv, sumB_has _ hv, Bool.eq_iff_iff]
  simp only [List.any_eq_true, List.mem_range, Bool.and_eq_true, decide_eq_true_eq, beq_iff_eq]
  constructor
  · rintro ⟨t, ht6, hlt, htm, he⟩
    have htl : t < (domL d).length := by omega
    have hdv := domL_at d htl
    rw [he, Int.toNat_natCast] at hdv
    have q1 := p1 (by omega)
    have q2 := p2 (by omega)
    obtain ⟨a, ha, ha6⟩ := domL_val d (k := lo) (by omega)
    obtain ⟨b, hb, hb6⟩ := domL_val d (k := m - 1) (by omega)
    have hda := domL_at d (k := lo) (by omega)
    have hdb := domL_at d (k := m - 1) (by omega)
    rw [ha, Int.toNat_natCast] at q1 hda
    rw [hb, Int.toNat_natCast] at q2 hdb
    have m1 := hmono2 lo t (by omega) htl
    have m2 := hmono2 t (m - 1) (by omega) (by omega)
    rw [ha, he] at m1
    rw [hb, he] at m2
    exact ⟨hdv, ⟨a, ha6, by omega, hda, q1⟩, ⟨b, hb6, by omega, hdb, q2⟩⟩
  · rintro ⟨hdv, ⟨a, ha6, hav, hda, hka⟩, ⟨b, hb6, hvb, hdb, hkb⟩⟩
    obtain ⟨t, ht, he⟩ := hat v hv hdv
    obtain ⟨s, hs, hse⟩ := hat a ha6 hda
    obtain ⟨r, hr, hre⟩ := hat b hb6 hdb
    have st := hmono s t hs ht (by rw [hse, he]; omega)
    have tr := hmono t r ht hr (by rw [hre, he]; omega)
    refine ⟨t, by omega, ?_, ?_, he⟩
    · by_cases h : lo ≤ s
      · omega
      · have := n1 s (by omega)
        rw [hse, Int.toNat_natCast, hka] at this; cases this
    · by_cases h : r < m
      · omega
      · have := n2 r (by omega) hr
        rw [hre, Int.toNat_natCast, hkb] at this; cases this
/-- The program's mask. -/
theorem edge_bits {d : Nat} (h1 : 1 ≤ d) (h2 : d ≤ 63) {k : Int} (k0 : 0 ≤ k) (k1 : k ≤ 63) : bits .andNot .i64 d (bits .andNot .i64 (bits .or .i64 (2 ^ topB d) (2 ^ lowB d)) k) = edgeV d k := by
  have : ∀ n : Fin 64, ∀ k : Fin 64, 1 ≤ n.val → bits .andNot .i64 (n.val : Int) (bits .andNot .i64 (bits .or .i64 (2 ^ topB n.val) (2 ^ lowB n.val)) (k.val : Int)) = edgeV (n.val : Int) (k.val : Int) := by decide +kernel
  obtain ⟨m, rfl⟩ : ∃ m : Nat, k = m := ⟨k.toNat, by omega⟩
  exact this ⟨d, by omega⟩ ⟨m, by omega⟩ h1
theorem edge_zero (k : Int) : edgeV 0 k = 0 := by
  refine dom_ext (sumB_bd _) (by omega) fun v hv => ?_
  rw [edgeV_has 0 k hv, hasB_zero]; rfl
/-- The first v places have been turned. -/
def mapP (f : Int → Int → Int) (c : Con) (ds : List Int) (v : Nat) : List Int := (List.range ds.length).map fun i => if i < v then f (at0 ds i) (at0 (filtL c ds) i) else at0 ds i
theorem mapP_len (f : Int → Int → Int) (c : Con) (ds : List Int) (v : Nat) : (mapP f c ds v).length = ds.length := by simp [mapP]
theorem mapP_at (f : Int → Int → Int) (c : Con) (ds : List Int) (v : Nat) {i : Nat} (hi : i < ds.length) : at0 (mapP f c ds v) i = if i < v then f (at0 ds i) (at0 (filtL c ds) i) else at0 ds i := by
  unfold mapP
  simp [at0, hi]
theorem mapP_zero (f : Int → Int → Int) (c : Con) (ds : List Int) : mapP f c ds 0 = ds :=
  at0_ext (mapP_len _ _ _ _) fun i hi => by rw [mapP_len] at hi; rw [mapP_at _ _ _ _ hi, if_neg (by omega)]
theorem mapP_all (f : Int → Int → Int) (c : Con) (ds : List Int) : mapP f c ds ds.length = mapF f c ds :=
  at0_ext (by rw [mapP_len, mapF_len]) fun i hi => by rw [mapP_len] at hi; rw [mapP_at _ _ _ _ hi, if_pos hi, mapF_at _ _ _ hi]
theorem mapP_succ (f : Int → Int → Int) (c : Con) (ds : List Int) {v : Nat} (hv : v < ds.length) : mapP f c ds (v + 1) = (mapP f c ds v).set v (f (at0 ds v) (at0 (filtL c ds) v)) :=
  at0_ext (by rw [mapP_len, List.length_set, mapP_len]) fun i hi => by
    rw [mapP_len] at hi
    rw [at0_set _ _ _ _ (by rw [mapP_len]; exact hv), mapP_at _ _ _ _ hi]
    by_cases e : v = i
    · subst e; rw [if_pos rfl, if_pos (by omega)]
    · rw [if_neg e, mapP_at _ _ _ _ hi]
      by_cases h : i < v
      · rw [if_pos h, if_pos (by omega)]
      · rw [if_neg h, if_neg (by omega)]
set_option maxRecDepth 100000 in
set_option maxHeartbeats 16000000 in
theorem trim_any (d k : Int) (w : World) (h0 : 0 ≤ d) (h1 : d ≤ 63) (k0 : 0 ≤ k) (k1 : k ≤ 63) :
    Calls Tryz.prog 94 #[.int .i64 d, .int .i64 k] w (Ret (.int .i64 (trimV d k)) w) := by
  go_enter Tryz.func94, Tryz.ntmps94
  go_wp2_with fail
  refine (domainValues_any d w h0 (by omega)).mono ?_
  rintro e w1 ⟨A1, c1, b1, m1, f1, rfl, hc1, hd1, hb1, ho1, hx1⟩
  have HO := hide ho1
  have HX1 := hide hx1
  have hl6 := domL_len d
  obtain ⟨L, hL⟩ : ∃ L, L = (domL d).length := ⟨_, rfl⟩
  have HL := hide hL
  rw [← hL] at hl6 ⊢
  clear ho1 hx1 hd1 hb1 hc1 hL
  go_wp2_with fail
  go_loopw [6] (fun i wr => ∃ j : Nat, i = .int .i64 j ∧ j ≤ L ∧ Ext w1 wr ∧ ∀ t, t < j → hasB k (at0 (domL d) t).toNat = false) (fun i _ => L - (intOf i).toNat)
  case atStart => exact ⟨0, rfl, Nat.zero_le _, Ext.refl _, fun t ht => by omega⟩
  case round =>
    obtain ⟨j, rfl, hj, hx, hno⟩ := hrel
    have HNO := hide hno
    have HXR := hide hx
    clear hno hx
    by_cases hjl : j < L
    · have hjI : (j : Int) < (L : Int) := by omega
      obtain ⟨rfl, hr1, hm1, hf1⟩ := (HO.out.ext HXR.out) (by rw [← HL.out]; omega)
      obtain ⟨a, ha, ha6⟩ := domL_val d (k := j) (by rw [← HL.out]; exact hjl)
      have fa := hr1.cell (i := j) (by rw [← HL.out] at hm1; omega)
      rw [hf1 j (by rw [← HL.out]; exact hjl), ha] at fa
      have HA := hide ha
      clear hr1 hf1 hm1 ha
      go_wp2_with fail
      refine (domainHas_any k a _ k0 (by omega) (by omega)).mono ?_
      rintro e w2 ⟨rfl, rfl⟩
      cases hh : hasB k a with
      | false =>
        have HH := hide (show hasB k (at0 (domL d) j).toNat = false by rw [HA.out, Int.toNat_natCast]; exact hh)
        clear hh fa
        go_wp2_with fail
        go_roundw
        case rel => exact ⟨j + 1, by go_num, by omega, HXR.out, upto_succ HNO.out HH.out⟩
        case measure => simp [intOf] <;> omega
      | true =>
        have HP1 := hide (show j < (domL d).length → hasB k (at0 (domL d) j).toNat = true from fun _ => by rw [HA.out, Int.toNat_natCast]; exact hh)
        clear hh fa
        have hkw : IntKind.i64.wrap ((L : Int) - 1) = (L : Int) - 1 := IntWalk.i64_in _ (by omega)
        obtain ⟨wL, rfl⟩ : ∃ wL, wL = wr := ⟨wr, rfl⟩
        go_wp2_with fail
        go_loopw [7] (fun i wr => ∃ m : Nat, i = .int .i64 ((m : Int) - 1) ∧ j ≤ m ∧ m ≤ L ∧ Ext w1 wr ∧ ∀ t, m ≤ t → t < L → hasB k (at0 (domL d) t).toNat = false) (fun i _ => (intOf i + 1).toNat)
        case atStart => exact ⟨L, rfl, by omega, Nat.le_refl _, HXR.out, fun t h1 h2 => by omega⟩
        case round =>
          obtain ⟨m, rfl, hlm, hmL, hx, hno2⟩ := hrel
          have HNO2 := hide hno2
          have HXR := hide hx
          clear hno2 hx hkw
          by_cases hml : j < m
          · obtain ⟨r, hr⟩ : ∃ r, m = r + 1 := ⟨m - 1, by omega⟩
            have e : ((m : Int) - 1) = (r : Int) := by omega
            rw [e]
            have hge : decide ((j : Int) ≤ (r : Int)) = true := decide_eq_true (by omega)
            have hgeI : (j : Int) ≤ (r : Int) := by omega
            have hrL : r < L := by omega
            have hrI : (r : Int) < (L : Int) := by omega
            obtain ⟨hA1, hr1, hm1, hf1⟩ := (HO.out.ext HXR.out) (by rw [← HL.out]; omega)
            first | subst hA1 | clear hA1
            obtain ⟨a, ha, ha6⟩ := domL_val d (k := r) (by rw [← HL.out]; exact hrL)
            have fa := hr1.cell (i := r) (by rw [← HL.out] at hm1; omega)
            rw [hf1 r (by rw [← HL.out]; exact hrL), ha] at fa
            have HA := hide ha
            have HM := hide hr
            clear hr1 hf1 hm1 ha e
            go_wp2_with fail
            refine (domainHas_any k a _ k0 (by omega) (by omega)).mono ?_
            rintro e w3 ⟨rfl, rfl⟩
            cases hh : hasB k a with
            | false =>
              have HH := hide (show hasB k (at0 (domL d) r).toNat = false by rw [HA.out, Int.toNat_natCast]; exact hh)
              have hkw2 : IntKind.i64.wrap ((r : Int) - 1) = (r : Int) - 1 := IntWalk.i64_in _ (by omega)
              clear hh fa hr
              go_wp2_with fail
              go_roundw
              case rel => exact ⟨r, rfl, by omega, by omega, HXR.out, fun t q1 q2 => by
                by_cases e : t = r
                · subst e; exact HH.out
                · exact HNO2.out t (by have := HM.out; omega) q2⟩
              case measure => simp [intOf] <;> omega
            | true =>
              have HTS := hide (show sumR d j (r + 1 - j) = trimV d k from trim_sum h0 h1 (by omega) (by rw [← HL.out]; omega) HNO.out (fun j q1 q2 => HNO2.out j (by have := HM.out; omega) (by rw [HL.out]; exact q2)) HP1.out (fun _ => by rw [show r + 1 - 1 = r by omega, HA.out, Int.toNat_natCast]; exact hh))
              clear hh fa hr
              obtain ⟨wM, rfl⟩ : ∃ wM, wM = wr := ⟨wr, rfl⟩
              go_wp2_with fail
              go_loopw [8, 9] (fun o i wr => ∃ t : Nat, i = .int .i64 ((j + t : Nat) : Int) ∧ j + t ≤ (r + 1) ∧ o = .int .i64 (sumR d j t) ∧ Ext w1 wr) (fun _ i _ => (r + 1) - (intOf i).toNat)
              case atStart => exact ⟨0, rfl, by omega, rfl, HXR.out⟩
              case round =>
                obtain ⟨t, rfl, ht, rfl, hx⟩ := hrel
                have HX3 := hide hx
                obtain ⟨s, hs⟩ : ∃ s, s = j + t := ⟨_, rfl⟩
                have HS := hide hs
                rw [← hs] at ht ⊢
                clear hx
                by_cases hsm : s < (r + 1)
                · have hle : decide ((s : Int) ≤ (r : Int)) = true := decide_eq_true (by omega)
                  have hleI : (s : Int) ≤ (r : Int) := by omega
                  have hsL : s < L := by omega
                  have hsI : (s : Int) < (L : Int) := by omega
                  obtain ⟨hA1, hr1, hm1, hf1⟩ := (HO.out.ext HX3.out) (by rw [← HL.out]; omega)
                  first | subst hA1 | clear hA1
                  obtain ⟨a, ha, ha6⟩ := domL_val d (k := s) (by rw [← HL.out]; exact hsL)
                  have fa := hr1.cell (i := s) (by rw [← HL.out] at hm1; omega)
                  rw [hf1 s (by rw [← HL.out]; exact hsL), ha] at fa
                  have HA := hide ha
                  have hpw := pow_bd ha6
                  have kp : IntKind.i64.wrap (2 ^ a) = 2 ^ a := IntWalk.i64_in _ (by omega)
                  have hb := sumR_bd h0 h1 (lo := j) (k := t) (by rw [← HL.out]; have := HS.out; omega)
                  obtain ⟨o, ho⟩ : ∃ o, o = sumR d j t := ⟨_, rfl⟩
                  rw [← ho] at hb ⊢
                  have HOO := hide ho
                  have ka : IntKind.i64.wrap (o + 2 ^ a) = o + 2 ^ a := IntWalk.i64_in _ (by omega)
                  clear hr1 hf1 hm1 ha ho hs
                  go_wp2_with fail
                  go_roundw
                  case rel => exact ⟨t + 1, by have := HS.out; subst this; go_num, by have := HS.out; omega, by rw [sumR, ← HS.out, HA.out, Int.toNat_natCast, ← HOO.out], HX3.out⟩
                  case measure => simp [intOf] <;> omega
                · have hle : decide ((s : Int) ≤ (r : Int)) = false := decide_eq_false (by omega)
                  have hleI : ¬ (s : Int) ≤ (r : Int) := by omega
                  have HT := hide (show sumR d j t = trimV d k by
                    have e : t = (r + 1) - j := by have := HS.out; omega
                    rw [e]
                    exact HTS.out)
                  clear hs
                  go_wp2_with fail
                  go_ret
                  exact Ret.mk (ret_i HT.out) (HX1.out.trans HX3.out)
          · obtain rfl : j = m := by omega
            have hge : decide ((j : Int) ≤ (j : Int) - 1) = false := decide_eq_false (by omega)
            have hgeI : ¬ (j : Int) ≤ (j : Int) - 1 := by omega
            have HTS := hide (show sumR d j (j - j) = trimV d k from trim_sum h0 h1 (by omega) (by rw [← HL.out]; omega) HNO.out (fun j q1 q2 => HNO2.out j q1 (by rw [HL.out]; exact q2)) HP1.out (fun h => by omega))
            obtain ⟨wM, rfl⟩ : ∃ wM, wM = wr := ⟨wr, rfl⟩
            go_wp2_with fail
            go_loopw [8, 9] (fun o i wr => ∃ t : Nat, i = .int .i64 ((j + t : Nat) : Int) ∧ j + t ≤ j ∧ o = .int .i64 (sumR d j t) ∧ Ext w1 wr) (fun _ i _ => j - (intOf i).toNat)
            case atStart => exact ⟨0, rfl, by omega, rfl, HXR.out⟩
            case round =>
              obtain ⟨t, rfl, ht, rfl, hx⟩ := hrel
              have HX3 := hide hx
              obtain ⟨s, hs⟩ : ∃ s, s = j + t := ⟨_, rfl⟩
              have HS := hide hs
              rw [← hs] at ht ⊢
              clear hx
              by_cases hsm : s < j
              · have hle : decide ((s : Int) ≤ (j : Int) - 1) = true := decide_eq_true (by omega)
                have hleI : (s : Int) ≤ (j : Int) - 1 := by omega
                have hsL : s < L := by omega
                have hsI : (s : Int) < (L : Int) := by omega
                obtain ⟨hA1, hr1, hm1, hf1⟩ := (HO.out.ext HX3.out) (by rw [← HL.out]; omega)
                first | subst hA1 | clear hA1
                obtain ⟨a, ha, ha6⟩ := domL_val d (k := s) (by rw [← HL.out]; exact hsL)
                have fa := hr1.cell (i := s) (by rw [← HL.out] at hm1; omega)
                rw [hf1 s (by rw [← HL.out]; exact hsL), ha] at fa
                have HA := hide ha
                have hpw := pow_bd ha6
                have kp : IntKind.i64.wrap (2 ^ a) = 2 ^ a := IntWalk.i64_in _ (by omega)
                have hb := sumR_bd h0 h1 (lo := j) (k := t) (by rw [← HL.out]; have := HS.out; omega)
                obtain ⟨o, ho⟩ : ∃ o, o = sumR d j t := ⟨_, rfl⟩
                rw [← ho] at hb ⊢
                have HOO := hide ho
                have ka : IntKind.i64.wrap (o + 2 ^ a) = o + 2 ^ a := IntWalk.i64_in _ (by omega)
                clear hr1 hf1 hm1 ha ho hs
                go_wp2_with fail
                go_roundw
                case rel => exact ⟨t + 1, by have := HS.out; subst this; go_num, by have := HS.out; omega, by rw [sumR, ← HS.out, HA.out, Int.toNat_natCast, ← HOO.out], HX3.out⟩
                case measure => simp [intOf] <;> omega
              · have hle : decide ((s : Int) ≤ (j : Int) - 1) = false := decide_eq_false (by omega)
                have hleI : ¬ (s : Int) ≤ (j : Int) - 1 := by omega
                have HT := hide (show sumR d j t = trimV d k by
                  have e : t = j - j := by have := HS.out; omega
                  rw [e]
                  exact HTS.out)
                clear hs
                go_wp2_with fail
                go_ret
                exact Ret.mk (ret_i HT.out) (HX1.out.trans HX3.out)
    · obtain rfl : j = L := by omega
      have hjI : ¬ (j : Int) < (j : Int) := by omega
      have HP1 := hide (show j < (domL d).length → hasB k (at0 (domL d) j).toNat = true from fun h => by rw [← HL.out] at h; omega)
      have hkw : IntKind.i64.wrap ((j : Int) - 1) = (j : Int) - 1 := IntWalk.i64_in _ (by omega)
      obtain ⟨wL, rfl⟩ : ∃ wL, wL = wr := ⟨wr, rfl⟩
      go_wp2_with fail
      go_loopw [7] (fun i wr => ∃ m : Nat, i = .int .i64 ((m : Int) - 1) ∧ j ≤ m ∧ m ≤ j ∧ Ext w1 wr ∧ ∀ t, m ≤ t → t < j → hasB k (at0 (domL d) t).toNat = false) (fun i _ => (intOf i + 1).toNat)
      case atStart => exact ⟨j, rfl, by omega, Nat.le_refl _, HXR.out, fun t h1 h2 => by omega⟩
      case round =>
        obtain ⟨m, rfl, hlm, hmL, hx, hno2⟩ := hrel
        have HNO2 := hide hno2
        have HXR := hide hx
        clear hno2 hx hkw
        by_cases hml : j < m
        · obtain ⟨r, hr⟩ : ∃ r, m = r + 1 := ⟨m - 1, by omega⟩
          have e : ((m : Int) - 1) = (r : Int) := by omega
          rw [e]
          have hge : decide ((j : Int) ≤ (r : Int)) = true := decide_eq_true (by omega)
          have hgeI : (j : Int) ≤ (r : Int) := by omega
          have hrL : r < j := by omega
          have hrI : (r : Int) < (j : Int) := by omega
          obtain ⟨hA1, hr1, hm1, hf1⟩ := (HO.out.ext HXR.out) (by rw [← HL.out]; omega)
          first | subst hA1 | clear hA1
          obtain ⟨a, ha, ha6⟩ := domL_val d (k := r) (by rw [← HL.out]; exact hrL)
          have fa := hr1.cell (i := r) (by rw [← HL.out] at hm1; omega)
          rw [hf1 r (by rw [← HL.out]; exact hrL), ha] at fa
          have HA := hide ha
          have HM := hide hr
          clear hr1 hf1 hm1 ha e
          go_wp2_with fail
          refine (domainHas_any k a _ k0 (by omega) (by omega)).mono ?_
          rintro e w3 ⟨rfl, rfl⟩
          cases hh : hasB k a with
          | false =>
            have HH := hide (show hasB k (at0 (domL d) r).toNat = false by rw [HA.out, Int.toNat_natCast]; exact hh)
            have hkw2 : IntKind.i64.wrap ((r : Int) - 1) = (r : Int) - 1 := IntWalk.i64_in _ (by omega)
            clear hh fa hr
            go_wp2_with fail
            go_roundw
            case rel => exact ⟨r, rfl, by omega, by omega, HXR.out, fun t q1 q2 => by
              by_cases e : t = r
              · subst e; exact HH.out
              · exact HNO2.out t (by have := HM.out; omega) q2⟩
            case measure => simp [intOf] <;> omega
          | true =>
            have HTS := hide (show sumR d j (r + 1 - j) = trimV d k from trim_sum h0 h1 (by omega) (by rw [← HL.out]; omega) HNO.out (fun j q1 q2 => HNO2.out j (by have := HM.out; omega) (by rw [HL.out]; exact q2)) HP1.out (fun _ => by rw [show r + 1 - 1 = r by omega, HA.out, Int.toNat_natCast]; exact hh))
            clear hh fa hr
            obtain ⟨wM, rfl⟩ : ∃ wM, wM = wr := ⟨wr, rfl⟩
            go_wp2_with fail
            go_loopw [8, 9] (fun o i wr => ∃ t : Nat, i = .int .i64 ((j + t : Nat) : Int) ∧ j + t ≤ (r + 1) ∧ o = .int .i64 (sumR d j t) ∧ Ext w1 wr) (fun _ i _ => (r + 1) - (intOf i).toNat)
            case atStart => exact ⟨0, rfl, by omega, rfl, HXR.out⟩
            case round =>
              obtain ⟨t, rfl, ht, rfl, hx⟩ := hrel
              have HX3 := hide hx
              obtain ⟨s, hs⟩ : ∃ s, s = j + t := ⟨_, rfl⟩
              have HS := hide hs
              rw [← hs] at ht ⊢
              clear hx
              by_cases hsm : s < (r + 1)
              · have hle : decide ((s : Int) ≤ (r : Int)) = true := decide_eq_true (by omega)
                have hleI : (s : Int) ≤ (r : Int) := by omega
                have hsL : s < j := by omega
                have hsI : (s : Int) < (j : Int) := by omega
                obtain ⟨hA1, hr1, hm1, hf1⟩ := (HO.out.ext HX3.out) (by rw [← HL.out]; omega)
                first | subst hA1 | clear hA1
                obtain ⟨a, ha, ha6⟩ := domL_val d (k := s) (by rw [← HL.out]; exact hsL)
                have fa := hr1.cell (i := s) (by rw [← HL.out] at hm1; omega)
                rw [hf1 s (by rw [← HL.out]; exact hsL), ha] at fa
                have HA := hide ha
                have hpw := pow_bd ha6
                have kp : IntKind.i64.wrap (2 ^ a) = 2 ^ a := IntWalk.i64_in _ (by omega)
                have hb := sumR_bd h0 h1 (lo := j) (k := t) (by rw [← HL.out]; have := HS.out; omega)
                obtain ⟨o, ho⟩ : ∃ o, o = sumR d j t := ⟨_, rfl⟩
                rw [← ho] at hb ⊢
                have HOO := hide ho
                have ka : IntKind.i64.wrap (o + 2 ^ a) = o + 2 ^ a := IntWalk.i64_in _ (by omega)
                clear hr1 hf1 hm1 ha ho hs
                go_wp2_with fail
                go_roundw
                case rel => exact ⟨t + 1, by have := HS.out; subst this; go_num, by have := HS.out; omega, by rw [sumR, ← HS.out, HA.out, Int.toNat_natCast, ← HOO.out], HX3.out⟩
                case measure => simp [intOf] <;> omega
              · have hle : decide ((s : Int) ≤ (r : Int)) = false := decide_eq_false (by omega)
                have hleI : ¬ (s : Int) ≤ (r : Int) := by omega
                have HT := hide (show sumR d j t = trimV d k by
                  have e : t = (r + 1) - j := by have := HS.out; omega
                  rw [e]
                  exact HTS.out)
                clear hs
                go_wp2_with fail
                go_ret
                exact Ret.mk (ret_i HT.out) (HX1.out.trans HX3.out)
        · obtain rfl : j = m := by omega
          have hge : decide ((j : Int) ≤ (j : Int) - 1) = false := decide_eq_false (by omega)
          have hgeI : ¬ (j : Int) ≤ (j : Int) - 1 := by omega
          have HTS := hide (show sumR d j (j - j) = trimV d k from trim_sum h0 h1 (by omega) (by rw [← HL.out]; omega) HNO.out (fun j q1 q2 => HNO2.out j q1 (by rw [HL.out]; exact q2)) HP1.out (fun h => by omega))
          obtain ⟨wM, rfl⟩ : ∃ wM, wM = wr := ⟨wr, rfl⟩
          go_wp2_with fail
          go_loopw [8, 9] (fun o i wr => ∃ t : Nat, i = .int .i64 ((j + t : Nat) : Int) ∧ j + t ≤ j ∧ o = .int .i64 (sumR d j t) ∧ Ext w1 wr) (fun _ i _ => j - (intOf i).toNat)
          case atStart => exact ⟨0, rfl, by omega, rfl, HXR.out⟩
          case round =>
            obtain ⟨t, rfl, ht, rfl, hx⟩ := hrel
            have HX3 := hide hx
            obtain ⟨s, hs⟩ : ∃ s, s = j + t := ⟨_, rfl⟩
            have HS := hide hs
            rw [← hs] at ht ⊢
            clear hx
            by_cases hsm : s < j
            · have hle : decide ((s : Int) ≤ (j : Int) - 1) = true := decide_eq_true (by omega)
              have hleI : (s : Int) ≤ (j : Int) - 1 := by omega
              have hsL : s < j := by omega
              have hsI : (s : Int) < (j : Int) := by omega
              obtain ⟨hA1, hr1, hm1, hf1⟩ := (HO.out.ext HX3.out) (by rw [← HL.out]; omega)
              first | subst hA1 | clear hA1
              obtain ⟨a, ha, ha6⟩ := domL_val d (k := s) (by rw [← HL.out]; exact hsL)
              have fa := hr1.cell (i := s) (by rw [← HL.out] at hm1; omega)
              rw [hf1 s (by rw [← HL.out]; exact hsL), ha] at fa
              have HA := hide ha
              have hpw := pow_bd ha6
              have kp : IntKind.i64.wrap (2 ^ a) = 2 ^ a := IntWalk.i64_in _ (by omega)
              have hb := sumR_bd h0 h1 (lo := j) (k := t) (by rw [← HL.out]; have := HS.out; omega)
              obtain ⟨o, ho⟩ : ∃ o, o = sumR d j t := ⟨_, rfl⟩
              rw [← ho] at hb ⊢
              have HOO := hide ho
              have ka : IntKind.i64.wrap (o + 2 ^ a) = o + 2 ^ a := IntWalk.i64_in _ (by omega)
              clear hr1 hf1 hm1 ha ho hs
              go_wp2_with fail
              go_roundw
              case rel => exact ⟨t + 1, by have := HS.out; subst this; go_num, by have := HS.out; omega, by rw [sumR, ← HS.out, HA.out, Int.toNat_natCast, ← HOO.out], HX3.out⟩
              case measure => simp [intOf] <;> omega
            · have hle : decide ((s : Int) ≤ (j : Int) - 1) = false := decide_eq_false (by omega)
              have hleI : ¬ (s : Int) ≤ (j : Int) - 1 := by omega
              have HT := hide (show sumR d j t = trimV d k by
                have e : t = j - j := by have := HS.out; omega
                rw [e]
                exact HTS.out)
              clear hs
              go_wp2_with fail
              go_ret
              exact Ret.mk (ret_i HT.out) (HX1.out.trans HX3.out)
end Go.Proofs.YtkjbefokgmiehaaGreatDoor
/- Bounds consistency: the reference's walk. -/
namespace Go.Proofs.YtkjbefokgmiehaaGreatDoor
open Go.RowKit

set_option maxRecDepth 100000 in
set_option maxHeartbeats 16000000 in
theorem trimAll_any (v vd : Value) (D ds : List Int) (cs : List Con) (w : World) (hM : SMod w v D cs) (hD : SInts w vd ds) (hG : GoodD cs ds.length ds) (h4 : ds.length ≤ 4) (h1 : 0 < ds.length) :
    Calls Tryz.prog 56 #[v, vd] w (OwnRes (bndL trimV cs ds) w) := by
  have hM0 := hide hM
  obtain ⟨ve, vc, rfl, hE, hC⟩ := hM
  have HG := hide hG
  have hD0 := hide hD
  obtain ⟨Ae, ce, rfl, -, hle⟩ := hE.form
  obtain ⟨Ac, cc, rfl, -, hlc⟩ := hC.form
  obtain ⟨Ad, cd, rfl, -, hld⟩ := hD.form
  obtain ⟨w0, hw0⟩ : ∃ w0, w0 = w.alloc (.cells #[.slice Ae D.length ce, .slice Ac cs.length cc] 26) := ⟨_, rfl⟩
  have hx0 : Ext w w0 := by rw [hw0]; exact (Ext.refl w).alloc _
  have k1 : w0.cell? ⟨w.heap.size, 1, none⟩ = some (.slice Ac cs.length cc) := by rw [hw0]; go_simp
  have ks : w.heap.size < w0.heap.size := by rw [hw0]; simp
  have HX0 := hide hx0
  have K1 := hide k1
  have hC0 := hide (hC.ext hx0)
  clear hE hC hD hG hx0 k1
  go_enter Tryz.func56, Tryz.ntmps56
  go_wp2_with fail
  rw [← hw0]
  clear hw0
  refine (copyInts_any _ ds _ (hD0.out.ext HX0.out) h1).mono ?_
  rintro e w1 ⟨A1, c1, b1, m1, f1, rfl, hc1, hd1, hb1, ho1, hx1⟩
  obtain ⟨rfl, hr1, hm1', hf1⟩ := ho1 h1
  have HRS := hide (show RowS w1 b1 m1 ds from ⟨f1, hr1, hm1', hf1⟩)
  have HX1 := hide hx1
  have hb1l := hr1.lt
  obtain ⟨n, hn⟩ : ∃ n, n = ds.length := ⟨_, rfl⟩
  have HG2 := hide (show GoodD cs n ds by rw [hn]; exact HG.out)
  rw [← hn] at h1 h4 hc1 hd1 ⊢
  have HC1 := hide hc1
  clear hn ho1 hr1 hf1 hx1 hm1'
  go_wp2
  go_loopw [6] (fun i wr => ∃ k : Nat, i = .int .i64 k ∧ k ≤ cs.length ∧ Ext w0 wr ∧ b1 < wr.heap.size ∧ RowS wr b1 m1 (bndK trimV cs ds k)) (fun i _ => cs.length - (intOf i).toNat)
  case atStart => exact ⟨0, rfl, Nat.zero_le _, HX1.out, hb1l, HRS.out⟩
  case round =>
    obtain ⟨k, rfl, hk, hx, hbw, hrow⟩ := hrel
    have HX := hide hx
    obtain ⟨q, hq⟩ : ∃ q, q = bndK trimV cs ds k := ⟨_, rfl⟩
    have HQ := hide hq
    have HGQ := hide (show GoodD cs n q by rw [hq]; exact (bndK_good trimOk HG2.out k).1)
    rw [← hq] at hrow
    have HROW := hide hrow
    have k1 := (hx.cells _ _ ks).trans K1.out
    have ksr := Nat.lt_of_lt_of_le ks hx.size
    clear hrow hq
    by_cases hlt : k < cs.length
    · have hkI : (k : Int) < cs.length := by omega
      obtain ⟨b, off, rfl, hbl, vv, va, vr, f1, f2, f3, f4, f5, s1, s2, s3⟩ := (hC0.out.ext hx).at_ hlt
      obtain ⟨Av, cv, rfl, -, -⟩ := s1.form
      obtain ⟨Aa, ca, rfl, -, -⟩ := s2.form
      obtain ⟨Ar, cr, rfl, -, -⟩ := s3.form
      have HC := hide (show SCon wr (.agg #[.int .i64 (con0 cs k).kk, .slice Av (con0 cs k).vars.length cv, .slice Aa (con0 cs k).args.length ca, .int .i64 (con0 cs k).bound, .slice Ar (con0 cs k).rows.length cr]) (con0 cs k) from ⟨_, _, _, rfl, s1, s2, s3⟩)
      have HV := hide (HG2.out.2.2 k hlt)
      have hql : q.length = n := HGQ.out.1
      have HSQ := hide (show SInts wr (.slice (some ⟨b1, 0, none⟩) n c1) q by
        have := HROW.out.sints (c := c1) (by rw [hql]; exact HC1.out) (by omega) HGQ.out.i64
        rwa [hql] at this)
      have HQL := hide hql
      clear s1 s2 s3 hx hql
      go_wp2_with fail
      refine (supported_any _ _ (con0 cs k) q _ HC.out HSQ.out (by rw [HQL.out]; exact HV.out) HGQ.out.2.1).mono ?_
      rintro e w2 ⟨A2, c2, b2, m2, f2', rfl, hc2, hb2, hn2, ho2, hx2⟩
      have hfl : (filtL (con0 cs k) q).length = n := by rw [filtL, filtP_len]; exact HQL.out
      have HG3 := hide ((HGQ.out.filt (i := k) hlt).1)
      have HO2 := hide ho2
      have HX2 := hide (HX.out.trans hx2)
      have HROW2 := hide (HROW.out.ext hx2)
      have hb2w : b1 < w2.heap.size := Nat.lt_of_lt_of_le hbw hx2.size
      have hb12 : b2 ≠ b1 := by omega
      have HFL := hide hfl
      rw [hfl]
      clear ho2 hx2 f1 f2 f3 f4 f5 hfl
      go_wp2_with fail
      go_loopw [8] (fun i wr2 => ∃ t : Nat, i = .int .i64 t ∧ t ≤ n ∧ Ext w0 wr2 ∧ RowS wr2 b1 m1 (mapP trimV (con0 cs k) q t) ∧ Keep (fun j => j ≠ b1) w2 wr2) (fun i _ => n - (intOf i).toNat)
      case atStart => exact ⟨0, rfl, Nat.zero_le _, HX2.out, by rw [mapP_zero]; exact HROW2.out, Keep.refl _ _⟩
      case round =>
        obtain ⟨t, rfl, ht, hxt, hrt, hkt⟩ := hrel
        have HXT := hide hxt
        have HKT := hide hkt
        have HRT := hide hrt
        by_cases htl : t < n
        · have htI : (t : Int) < n := by omega
          obtain ⟨rfl, hr2, hm2', hf2⟩ := HO2.out (by rw [HFL.out]; omega)
          have fa := (hkt.row hb12 hr2).cell (i := t) (by have := HFL.out; omega)
          rw [hf2 t (by rw [HFL.out]; exact htl)] at fa
          have hb2t := (hkt.row hb12 hr2).lt
          obtain ⟨g, hrg, hmg, hfg⟩ := hrt
          have hml : (mapP trimV (con0 cs k) q t).length = n := by rw [mapP_len]; exact HQL.out
          have fk := hrg.cell (i := t) (by omega)
          rw [hfg t (by omega), mapP_at _ _ _ _ (by rw [HQL.out]; exact htl), if_neg (by omega)] at fk
          have fz := hrg.frozen t
          have hb1t := hrg.lt
          have hdb := HGQ.out.2.1 t (by rw [HQL.out]; exact htl)
          have hkb := HG3.out.2.1 t (by rw [HFL.out]; exact htl)
          obtain ⟨x, hx⟩ : ∃ x, x = at0 q t := ⟨_, rfl⟩
          obtain ⟨y, hy⟩ : ∃ y, y = at0 (filtL (con0 cs k) q) t := ⟨_, rfl⟩
          rw [← hx] at fk hdb
          rw [← hy] at fa hkb
          obtain ⟨z, hz⟩ : ∃ z, z = trimV x y := ⟨_, rfl⟩
          have HZ := hide (show z = trimV (at0 q t) (at0 (filtL (con0 cs k) q) t) by rw [hz, hx, hy])
          have HZ2 := hide hz
          clear hxt hkt hr2 hf2 hrg hfg hml hx hy hz hm2' hmg
          go_wp2_with fail
          refine wp_region_ext_tail 12 (by kernel_rfl) (by kernel_rfl) ?_
          simp only [List.take_succ_cons, List.take_zero, List.drop_succ_cons, List.drop_zero]
          iterate 10 (apply quiet_val; (focus rfl); (focus (intro w' hw'; have hk' := hw'.cells; go_simp; all_goals exact rfl)); simp only [Act.put, List.setIfInBounds_toArray, List.set_cons_succ, List.set_cons_zero])
          apply quiet_call; (focus rfl); (focus (intro w' hw'; go_simp; all_goals (first | exact rfl | (apply And.intro <;> exact rfl))))
          · exact fun w' hw' => Ret.quiet ((trim_any x y w' hdb.1 hdb.2 hkb.1 hkb.2).mono fun e w2 h => by rw [← HZ2.out] at h; exact h) hw'
          (simp only [Act.put, List.setIfInBounds_toArray, List.set_cons_succ, List.set_cons_zero])
          (apply quiet_val; (focus rfl); (focus (intro w' hw'; have hk' := hw'.cells; go_simp; all_goals exact rfl)); simp only [Act.put, List.setIfInBounds_toArray, List.set_cons_succ, List.set_cons_zero])
          refine wpQuiet_nil ?_
          intro w5 hx5
          have HX5 := hide (HXT.out.trans hx5)
          have HRT5 := hide (HRT.out.ext hx5)
          have HKT5 := hide (HKT.out.ext hx5)
          have fz := (hx5.frz _ _ hb1t).trans fz
          have fk := (hx5.cells _ _ hb1t).trans fk
          clear hx5 fa
          go_wp2
          go_roundw
          case rel => exact ⟨t + 1, by go_num, by omega, HX5.out.set (p := ⟨b1, t, none⟩) hb1 _, by rw [mapP_succ _ _ _ (by rw [HQL.out]; exact htl), ← HZ.out]; exact HRT5.out.set t z (by rw [mapP_len, HQL.out]; exact htl), HKT5.out.set (fun _ hh => hh rfl) _⟩
          case measure => simp [intOf]; omega
        · obtain rfl : t = n := by omega
          have htI : ¬ ((t : Int) < t) := by omega
          have HNX := hide (show mapP trimV (con0 cs k) q t = bndK trimV cs ds (k + 1) by
            rw [show mapP trimV (con0 cs k) q t = mapF trimV (con0 cs k) q by rw [← mapP_all, HQL.out], HQ.out]; rfl)
          have hbt := Nat.lt_of_lt_of_le hb2w HKT.out.size
          clear hxt hkt hrt
          go_wp2
          go_roundw
          case rel => exact ⟨k + 1, by go_num, by omega, HXT.out, hbt, by rw [← HNX.out]; exact HRT.out⟩
          case measure => simp [intOf]; omega
    · obtain rfl : k = cs.length := by omega
      have hkI : ¬ ((cs.length : Int) < cs.length) := by omega
      have hql : q.length = n := HGQ.out.1
      have HE := hide (show OwnRes (bndL trimV cs ds) w (.returned (.slice (some ⟨b1, 0, none⟩) n c1)) wr by
        have h := HROW.out.own (c := c1) (w := w) (by rw [hql]; exact HC1.out) (by omega) (Nat.le_trans HX0.out.size hb1) (HX0.out.trans HX.out)
        rw [hql] at h
        rw [bndL, ← HQ.out]; exact h)
      go_wp2
      go_ret
      exact HE.out
set_option maxRecDepth 100000 in
set_option maxHeartbeats 8000000 in
theorem boundsFixpoint_any (v : Value) (ds : List Int) (cs : List Con) (w : World) (hM : SMod w v ds cs) (hG : GoodD cs ds.length ds) (h4 : ds.length ≤ 4) (h1 : 0 < ds.length) :
    Calls Tryz.prog 25 #[v] w (OwnRes (fixL (bndL trimV cs) 300 ds) w) := by
  have hM0 := hide hM
  obtain ⟨ve, vc, rfl, hE, hC⟩ := hM
  have HG := hide hG
  obtain ⟨Ae, ce, rfl, -, hle⟩ := hE.form
  obtain ⟨Ac, cc, rfl, -, hlc⟩ := hC.form
  obtain ⟨w0, hw0⟩ : ∃ w0, w0 = w.alloc (.cells #[.slice Ae ds.length ce, .slice Ac cs.length cc] 26) := ⟨_, rfl⟩
  have hx0 : Ext w w0 := by rw [hw0]; exact (Ext.refl w).alloc _
  have k0 : w0.cell? ⟨w.heap.size, 0, none⟩ = some (.slice Ae ds.length ce) := by rw [hw0]; go_simp
  have k1 : w0.cell? ⟨w.heap.size, 1, none⟩ = some (.slice Ac cs.length cc) := by rw [hw0]; go_simp
  have ks : w.heap.size < w0.heap.size := by rw [hw0]; simp
  have HX0 := hide hx0
  have K0 := hide k0
  have K1 := hide k1
  have hE0 := hide (hE.ext hx0)
  clear hE hC hx0 hG k1
  go_enter Tryz.func25, Tryz.ntmps25
  go_wp2_with fail
  rw [← hw0]
  clear hw0
  refine (copyInts_any _ ds _ hE0.out h1).mono ?_
  rintro e w1 ⟨A1, c1, b1, m1, f1, rfl, hc1, hb1, hn1, ho1, hx1⟩
  have HO := hide (show OwnRes ds w0 (.returned (.slice A1 ds.length c1)) w1 from ⟨A1, c1, b1, m1, f1, rfl, hc1, hb1, hn1, ho1, hx1⟩)
  obtain ⟨n, hn⟩ : ∃ n, n = ds.length := ⟨_, rfl⟩
  have HN := hide hn
  have HG2 := hide (show GoodD cs n ds by rw [hn]; exact HG.out)
  rw [← hn] at h4 h1 HO ⊢
  clear hn ho1 hx1 hb1 hn1 k0
  go_wp2_with fail
  go_loopg [3] 300 (fun gk v wr => ∃ (now : List Int), OwnRes now w0 (.returned v) wr ∧ GoodD cs n now ∧ fixL (bndL trimV cs) 300 ds = fixL (bndL trimV cs) gk now ∧ sumL now < gk)
  case atStart => exact ⟨ds, HO.out, HG2.out, rfl, by have := sumL_bd ds HG2.out.2.1; have := HN.out; omega⟩
  case round =>
    obtain ⟨now, how, hgn, hit, hsum⟩ := hrel
    obtain ⟨A, cc2, rfl⟩ := how.form
    have HOW := hide how
    have HGN := hide hgn
    have HIT := hide hit
    have HS := hide (how.ints hgn.i64)
    have hx := how.ext0
    have HX := hide hx
    have k0 := (hx.cells _ _ ks).trans K0.out
    have k1 := (hx.cells _ _ ks).trans K1.out
    have hsb := (sumL_bd now hgn.2.1).1
    obtain ⟨k, rfl⟩ : ∃ k, gk = k + 1 := ⟨gk - 1, by omega⟩
    have hnl : now.length = n := hgn.1
    rw [hnl] at HS HOW ⊢
    have HNL := hide hnl
    clear hgn hit hx how hnl
    go_wp2_with fail
    refine (trimAll_any _ _ ds now cs _ (hM0.out.ext (HX0.out.trans HX.out)) (by have := HS.out; exact this) (by rw [HNL.out]; exact HGN.out) (by rw [HNL.out]; exact h4) (by rw [HNL.out]; exact h1)).mono ?_
    rintro e w3 hres
    have hst := bnd_ok (cs := cs) (n := n) trimOk
    have HGS := hide (hst.stay now HGN.out)
    have hsl : (bndL trimV cs now).length = n := HGS.out.1
    have HO3 := hide (show OwnRes (bndL trimV cs now) w0 e w3 from OwnRes.from hres HX.out)
    obtain ⟨A3, c3, b3, m3, f3, rfl, hc3, hd3, hb3, ho3, hx3⟩ := hres
    have HS3 := hide (SInts.own hc3 hd3 ho3 HGS.out.i64)
    have HOW3 := hide (HOW.out.grow hx3)
    have HSW := hide (HS.out.ext hx3)
    have HSUB := hide (hst.sub now HGN.out)
    have HX3 := hide (HX.out.trans hx3)
    rw [hsl] at HS3 HO3 ⊢
    clear hc3 hd3 hb3 ho3 hx3 hst hsl k0 k1
    go_wp2_with fail
    refine (hasEmpty_any _ (bndL trimV cs now) _ HS3.out).mono ?_
    rintro e w4 ⟨rfl, rfl⟩
    cases hz : hasI (bndL trimV cs now) 0 with
    | true =>
      have HZ := hide (show fixL (bndL trimV cs) 300 ds = zer n by
        rw [HIT.out, fixL]
        cases h0 : hasI now 0 with
        | true => rw [if_pos rfl, HNL.out]
        | false =>
          rw [if_neg (by simp)]
          by_cases he : bndL trimV cs now = now
          · rw [he, h0] at hz; cases hz
          · rw [if_neg he]
            obtain ⟨k2, rfl⟩ : ∃ k2, k = k2 + 1 := ⟨k - 1, by
              have := SubD.sum HGS.out.2.1 HGN.out.2.1 HSUB.out he
              have := (sumL_bd (bndL trimV cs now) HGS.out.2.1).1
              omega⟩
            rw [fixL_empty hz, HGS.out.1])
      clear hz
      go_wp2_with (at_make; go_must (refine wpList_make_gen _ rfl _ _ 23 rfl 3 (.int .i64 0) 1 8 Tryz.underlying23 Tryz.infoI .i64 .i64 n rfl rfl (by omega) (by omega) (fun _ => .int .i64 0) (fun i _ => by simp [Value.cells, Nat.mod_one]) ?_); intro w5 hrow5 hsz5 hx5; rw [Nat.mul_one] at hrow5; have HROW5 := hide hrow5; have HX5 := hide hx5; clear hrow5 hsz5 hx5)
      go_ret
      rw [HZ.out]
      exact zer_own HROW5.out (Nat.le_trans HX0.out.size HX3.out.size) (HX0.out.trans (HX3.out.trans HX5.out)) h4
    | false =>
      have hn0 : hasI now 0 = false := by
        cases h0 : hasI now 0 with
        | false => rfl
        | true =>
          have := sub_hasI2 HSUB.out HGS.out.2.1 h0
          rw [this] at hz; cases hz
      have HN0 := hide hn0
      clear hz hn0
      go_wp2_with fail
      refine (equalIntsS_any _ _ (bndL trimV cs now) now _ HS3.out HSW.out).mono ?_
      rintro e w4 ⟨rfl, hx4⟩
      have HX4 := hide hx4
      clear hx4
      by_cases he : bndL trimV cs now = now
      · have HE := hide (show fixL (bndL trimV cs) 300 ds = now by rw [HIT.out, fixL_done HN0.out he])
        rw [decide_eq_true he]
        clear he
        go_wp2
        go_ret
        rw [HE.out]
        exact (HOW3.out.grow HX4.out).from HX0.out
      · have hlt := SubD.sum HGS.out.2.1 HGN.out.2.1 HSUB.out he
        have HIT2 := hide (show fixL (bndL trimV cs) 300 ds = fixL (bndL trimV cs) k (bndL trimV cs now) by
          rw [HIT.out, fixL, HN0.out, if_neg (by simp), if_neg he])
        rw [decide_eq_false he]
        clear he
        go_wp2
        go_roundg k
        case measure => omega
        case rel => exact ⟨bndL trimV cs now, HO3.out.grow HX4.out, HGS.out, HIT2.out, by omega⟩
end Go.Proofs.YtkjbefokgmiehaaGreatDoor
/- Bounds consistency: the program's walk, and BoundsPropagate on both sides. -/
namespace Go.Proofs.YtkjbefokgmiehaaGreatDoor
open Go.RowKit

theorem edge_bits2 {d : Nat} (h1 : 1 ≤ d) (h2 : d ≤ 63) {k : Int} (k0 : 0 ≤ k) (k1 : k ≤ 63) : bits .andNot .i64 d (bits .andNot .i64 (bits .or .i64 (2 ^ lowB d) (2 ^ topB d)) k) = edgeV d k := by
  have : ∀ n : Fin 64, ∀ k : Fin 64, 1 ≤ n.val → bits .andNot .i64 (n.val : Int) (bits .andNot .i64 (bits .or .i64 (2 ^ lowB n.val) (2 ^ topB n.val)) (k.val : Int)) = edgeV (n.val : Int) (k.val : Int) := by decide +kernel
  obtain ⟨m, rfl⟩ : ∃ m : Nat, k = m := ⟨k.toNat, by omega⟩
  exact this ⟨d, by omega⟩ ⟨m, by omega⟩ h1
theorem lowB_lt {d : Nat} (h1 : 1 ≤ d) (h2 : d ≤ 63) : lowB d < 6 := by
  have : ∀ n : Fin 64, 1 ≤ n.val → lowB n.val < 6 := by decide +kernel
  exact this ⟨d, by omega⟩ h1
theorem mapP_skip (f : Int → Int → Int) (c : Con) (ds : List Int) {v : Nat} (hv : v < ds.length) (h : f (at0 ds v) (at0 (filtL c ds) v) = at0 ds v) : mapP f c ds (v + 1) = mapP f c ds v :=
  at0_ext (by rw [mapP_len, mapP_len]) fun i hi => by
    rw [mapP_len] at hi
    rw [mapP_at _ _ _ _ hi, mapP_at _ _ _ _ hi]
    by_cases e : i = v
    · subst e; rw [if_pos (by omega), if_neg (by omega), h]
    · by_cases h2 : i < v
      · rw [if_pos h2, if_pos (by omega)]
      · rw [if_neg h2, if_neg (by omega)]
set_option maxRecDepth 100000 in
set_option maxHeartbeats 16000000 in
theorem bounds1_any (Ae Ac : Option Addr) (ce cc bm : Nat) (vd : Value) (D ds : List Int) (cs : List Con) (w : World) (hm1 : w.cell? ⟨bm, 1, none⟩ = some (.slice Ac cs.length cc)) (hbm : bm < w.heap.size)
    (hM : SMod w (.agg #[.slice Ae D.length ce, .slice Ac cs.length cc]) D cs) (hD : SInts w vd ds) (hG : GoodD cs ds.length ds) (h4 : ds.length ≤ 4) (h1 : 0 < ds.length) (hT : TzTab w) (hb : 1 < w.heap.size) :
    Calls Tryz.prog 50 #[vd, .pointer (some ⟨bm, 0, none⟩)] w (OwnRes (bndL edgeV cs ds) w) := by
  have hM0 := hide hM
  obtain ⟨ve, vc, e1, hE, hC⟩ := hM
  injection e1 with e1
  obtain ⟨rfl, rfl⟩ : _ = ve ∧ _ = vc := by simpa using e1
  have HG := hide hG
  have hD0 := hide hD
  have hC0 := hide hC
  have HT := hide hT
  have K1 := hide hm1
  obtain ⟨Ad, cd, rfl, -, hld⟩ := hD.form
  have hlc : cs.length ≤ 5864062014805 := by obtain ⟨_, _, _, _, h⟩ := hC.form; exact h
  clear hE hC hD hG hT hm1 e1
  go_enter Tryz.func50, Tryz.ntmps50
  go_wp2_with fail
  refine (copied_any _ ds _ hD0.out).mono ?_
  rintro e w1 ⟨A1, c1, b1, m1, f1, rfl, hc1, hd1, hb1, ho1, hx1⟩
  obtain ⟨rfl, hr1, hm1', hf1⟩ := ho1 h1
  have HRS := hide (show RowS w1 b1 m1 ds from ⟨f1, hr1, hm1', hf1⟩)
  have HX1 := hide hx1
  have hb1l := hr1.lt
  have k1 := (hx1.cells _ _ hbm).trans K1.out
  obtain ⟨n, hn⟩ : ∃ n, n = ds.length := ⟨_, rfl⟩
  have HG2 := hide (show GoodD cs n ds by rw [hn]; exact HG.out)
  rw [← hn] at h1 h4 hc1 hd1 ⊢
  have HC1 := hide hc1
  clear hn ho1 hr1 hf1 hx1 hm1'
  go_wp2
  go_loopw [14] (fun i wr => ∃ k : Nat, i = .int .i64 k ∧ k ≤ cs.length ∧ Ext w wr ∧ b1 < wr.heap.size ∧ RowS wr b1 m1 (bndK edgeV cs ds k)) (fun i _ => cs.length - (intOf i).toNat)
  case atStart => exact ⟨0, rfl, Nat.zero_le _, HX1.out, hb1l, HRS.out⟩
  case round =>
    obtain ⟨k, rfl, hk, hx, hbw, hrow⟩ := hrel
    have HX := hide hx
    obtain ⟨q, hq⟩ : ∃ q, q = bndK edgeV cs ds k := ⟨_, rfl⟩
    have HQ := hide hq
    have HGQ := hide (show GoodD cs n q by rw [hq]; exact (bndK_good edgeOk HG2.out k).1)
    rw [← hq] at hrow
    have HROW := hide hrow
    clear hrow hq k1
    by_cases hlt : k < cs.length
    · have hkI : (k : Int) < cs.length := by omega
      obtain ⟨b, off, rfl, hbl, vv, va, vr, f1, f2, f3, f4, f5, s1, s2, s3⟩ := (hC0.out.ext hx).at_ hlt
      obtain ⟨Av, cv, rfl, -, -⟩ := s1.form
      obtain ⟨Aa, ca, rfl, -, -⟩ := s2.form
      obtain ⟨Ar, cr, rfl, -, -⟩ := s3.form
      have HC := hide (show SCon wr (.agg #[.int .i64 (con0 cs k).kk, .slice Av (con0 cs k).vars.length cv, .slice Aa (con0 cs k).args.length ca, .int .i64 (con0 cs k).bound, .slice Ar (con0 cs k).rows.length cr]) (con0 cs k) from ⟨_, _, _, rfl, s1, s2, s3⟩)
      have HV := hide (HG2.out.2.2 k hlt)
      have hql : q.length = n := HGQ.out.1
      obtain ⟨wz, hwz⟩ : ∃ wz, wz = wr.alloc (.cells #[.int .i64 (con0 cs k).kk, .slice Av (con0 cs k).vars.length cv, .slice Aa (con0 cs k).args.length ca, .int .i64 (con0 cs k).bound, .slice Ar (con0 cs k).rows.length cr] 33) := ⟨_, rfl⟩
      have hxz : Ext wr wz := by rw [hwz]; exact (Ext.refl wr).alloc _
      have HSQ := hide (show SInts wz (.slice (some ⟨b1, 0, none⟩) n c1) q by
        have := (HROW.out.ext hxz).sints (c := c1) (by rw [hql]; exact HC1.out) (by omega) HGQ.out.i64
        rwa [hql] at this)
      have HQL := hide hql
      have HXZ := hide hxz
      have HROWZ := hide (HROW.out.ext hxz)
      have hszz := hxz.size
      clear s1 s2 s3 hx hql hxz
      go_wp2_with fail
      rw [← hwz]
      clear hwz
      refine (filter_any _ _ (con0 cs k) q _ (HC.out.ext HXZ.out) HSQ.out (by rw [HQL.out]; exact HV.out) HGQ.out.2.1).mono ?_
      rintro e w2 ⟨A2, c2, b2, m2, f2', rfl, hc2, hb2, hn2, ho2, hx2⟩
      have hfl : (filtL (con0 cs k) q).length = n := by rw [filtL, filtP_len]; exact HQL.out
      have HG3 := hide ((HGQ.out.filt (i := k) hlt).1)
      have HO2 := hide ho2
      have HX2 := hide (HX.out.trans (HXZ.out.trans hx2))
      have HROW2 := hide (HROWZ.out.ext hx2)
      have hb2w : b1 < w2.heap.size := Nat.lt_of_lt_of_le hbw (Nat.le_trans hszz hx2.size)
      have hb12 : b2 ≠ b1 := by omega
      have HFL := hide hfl
      rw [hfl]
      clear ho2 hx2 f1 f2 f3 f4 f5 hfl
      go_wp2_with fail
      go_loopw [22] (fun i wr2 => ∃ t : Nat, i = .int .i64 t ∧ t ≤ n ∧ Ext w wr2 ∧ RowS wr2 b1 m1 (mapP edgeV (con0 cs k) q t) ∧ Keep (fun j => j ≠ b1) w2 wr2) (fun i _ => n - (intOf i).toNat)
      case atStart => exact ⟨0, rfl, Nat.zero_le _, HX2.out, by rw [mapP_zero]; exact HROW2.out, Keep.refl _ _⟩
      case round =>
        obtain ⟨t, rfl, ht, hxt, hrt, hkt⟩ := hrel
        have HXT := hide hxt
        have HKT := hide hkt
        have HRT := hide hrt
        by_cases htl : t < n
        · have htI : (t : Int) < n := by omega
          obtain ⟨rfl, hr2, hm2', hf2⟩ := HO2.out (by rw [HFL.out]; omega)
          have fa := (hkt.row hb12 hr2).cell (i := t) (by have := HFL.out; omega)
          rw [hf2 t (by rw [HFL.out]; exact htl)] at fa
          have hb2t := (hkt.row hb12 hr2).lt
          obtain ⟨g, hrg, hmg, hfg⟩ := hrt
          have hml : (mapP edgeV (con0 cs k) q t).length = n := by rw [mapP_len]; exact HQL.out
          have fk := hrg.cell (i := t) (by omega)
          rw [hfg t (by omega), mapP_at _ _ _ _ (by rw [HQL.out]; exact htl), if_neg (by omega)] at fk
          have fz := hrg.frozen t
          have hb1t := hrg.lt
          have hdb := HGQ.out.2.1 t (by rw [HQL.out]; exact htl)
          have hkb := HG3.out.2.1 t (by rw [HFL.out]; exact htl)
          obtain ⟨x, hx⟩ : ∃ x : Nat, at0 q t = x := ⟨(at0 q t).toNat, by omega⟩
          obtain ⟨y, hy⟩ : ∃ y, y = at0 (filtL (con0 cs k) q) t := ⟨_, rfl⟩
          rw [hx] at fk hdb
          rw [← hy] at fa hkb
          have HXX := hide hx
          have HYY := hide hy
          clear hxt hkt hr2 hf2 hrg hfg hml hx hy hm2' hmg
          by_cases hx0 : x = 0
          · subst hx0
            have HSK := hide (show mapP edgeV (con0 cs k) q (t + 1) = mapP edgeV (con0 cs k) q t from mapP_skip _ _ _ (by rw [HQL.out]; exact htl) (by rw [HXX.out]; exact edge_zero _))
            go_wp2_with fail
            go_roundw
            case rel => exact ⟨t + 1, by go_num, by omega, HXT.out, by rw [HSK.out]; exact HRT.out, HKT.out⟩
            case measure => simp [intOf]; omega
          · have hx1 : 1 ≤ x := by omega
            have hx2 : x ≤ 63 := by omega
            have hxn : ((x : Int) != 0) = true := by simp; omega
            have heb := edge_bits2 hx1 hx2 hkb.1 hkb.2
            have hl6 := lowB_lt hx1 hx2
            have ht6 := topB_lt hx2
            obtain ⟨lo, hlo⟩ : ∃ lo, lo = lowB x := ⟨_, rfl⟩
            obtain ⟨hi, hhi⟩ : ∃ hi, hi = topB x := ⟨_, rfl⟩
            rw [← hlo] at heb hl6
            rw [← hhi] at heb ht6
            have HLO := hide hlo
            have HHI := hide hhi
            have p1 := pow_bd hl6
            have p2 := pow_bd ht6
            have kp1 : IntKind.i64.wrap (2 ^ lo) = 2 ^ lo := IntWalk.i64_in _ (by omega)
            have kp2 : IntKind.i64.wrap (2 ^ hi) = 2 ^ hi := IntWalk.i64_in _ (by omega)
            obtain ⟨z, hz⟩ : ∃ z, z = edgeV x y := ⟨_, rfl⟩
            rw [← hz] at heb
            have HZ := hide (show z = edgeV (at0 q t) (at0 (filtL (con0 cs k) q) t) by rw [hz, HXX.out, HYY.out])
            have hTW := hide (TzTab.ext HT.out hb HXT.out)
            have hbW := Nat.lt_of_lt_of_le hb HXT.out.size
            clear hz hlo hhi p1 p2
            go_wp2_with fail
            refine wp_region_ext_tail 15 (by kernel_rfl) (by kernel_rfl) ?_
            simp only [List.take_succ_cons, List.take_zero, List.drop_succ_cons, List.drop_zero]
            iterate 5 (apply quiet_val; (focus rfl); (focus (intro w' hw'; have hk' := hw'.cells; go_simp; all_goals exact rfl)); simp only [Act.put, List.setIfInBounds_toArray, List.set_cons_succ, List.set_cons_zero])
            apply quiet_call; (focus rfl); (focus (intro w' hw'; go_simp; all_goals (first | exact rfl | (apply And.intro <;> exact rfl))))
            · exact fun w' hw' => same_quiet ((least_any x hx1 hx2 w' (hTW.out.ext hbW hw')).mono fun e w2 h => by rw [← HLO.out] at h; exact h) hw'
            (simp only [Act.put, List.setIfInBounds_toArray, List.set_cons_succ, List.set_cons_zero])
            iterate 2 (apply quiet_val; (focus rfl); (focus (intro w' hw'; have hk' := hw'.cells; go_simp; all_goals exact rfl)); simp only [Act.put, List.setIfInBounds_toArray, List.set_cons_succ, List.set_cons_zero])
            apply quiet_call; (focus rfl); (focus (intro w' hw'; go_simp; all_goals (first | exact rfl | (apply And.intro <;> exact rfl))))
            · exact fun w' hw' => same_quiet ((most_any x hx1 hx2 w').mono fun e w2 h => by rw [← HHI.out] at h; exact h) hw'
            (simp only [Act.put, List.setIfInBounds_toArray, List.set_cons_succ, List.set_cons_zero])
            iterate 6 (apply quiet_val; (focus rfl); (focus (intro w' hw'; have hk' := hw'.cells; go_simp; all_goals exact rfl)); simp only [Act.put, List.setIfInBounds_toArray, List.set_cons_succ, List.set_cons_zero])
            refine wpQuiet_nil ?_
            intro w5 hx5
            have HX5 := hide (HXT.out.trans hx5)
            have HRT5 := hide (HRT.out.ext hx5)
            have HKT5 := hide (HKT.out.ext hx5)
            have fz := (hx5.frz _ _ hb1t).trans fz
            have fk := (hx5.cells _ _ hb1t).trans fk
            clear hx5 fa
            try simp only [kp1, kp2, heb]
            go_wp2
            go_roundw
            case rel => exact ⟨t + 1, by go_num, by omega, HX5.out.set (p := ⟨b1, t, none⟩) hb1 _, by rw [mapP_succ _ _ _ (by rw [HQL.out]; exact htl), ← HZ.out]; exact HRT5.out.set t z (by rw [mapP_len, HQL.out]; exact htl), HKT5.out.set (fun _ hh => hh rfl) _⟩
            case measure => simp [intOf]; omega
        · obtain rfl : t = n := by omega
          have htI : ¬ ((t : Int) < t) := by omega
          have HNX := hide (show mapP edgeV (con0 cs k) q t = bndK edgeV cs ds (k + 1) by
            rw [show mapP edgeV (con0 cs k) q t = mapF edgeV (con0 cs k) q by rw [← mapP_all, HQL.out], HQ.out]; rfl)
          have hbt := Nat.lt_of_lt_of_le hb2w HKT.out.size
          clear hxt hkt hrt
          go_wp2
          go_roundw
          case rel => exact ⟨k + 1, by go_num, by omega, HXT.out, hbt, by rw [← HNX.out]; exact HRT.out⟩
          case measure => simp [intOf]; omega
    · obtain rfl : k = cs.length := by omega
      have hkI : ¬ ((cs.length : Int) < cs.length) := by omega
      have hql : q.length = n := HGQ.out.1
      have HE := hide (show OwnRes (bndL edgeV cs ds) w (.returned (.slice (some ⟨b1, 0, none⟩) n c1)) wr by
        have h := HROW.out.own (c := c1) (w := w) (by rw [hql]; exact HC1.out) (by omega) hb1 HX.out
        rw [hql] at h
        rw [bndL, ← HQ.out]; exact h)
      go_wp2
      go_ret
      exact HE.out
/-- What the bounds leave. -/
def bndR (cs : List Con) (ds : List Int) : List Int := fixL (bndL edgeV cs) 300 ds
set_option maxRecDepth 100000 in
set_option maxHeartbeats 4000000 in
theorem boundsI_any (v : Value) (ds : List Int) (cs : List Con) (w : World) (hM : SMod w v ds cs) (hG : GoodD cs ds.length ds) (h4 : ds.length ≤ 4) (h1 : 0 < ds.length) (hT : TzTab w) (hb : 1 < w.heap.size) :
    Calls Tryz.prog 23 #[v] w (OwnRes (bndR cs ds) w) := by
  have hM0 := hide hM
  obtain ⟨ve, vc, rfl, hE, hC⟩ := hM
  have HG := hide hG
  have HT := hide hT
  obtain ⟨Ae, ce, rfl, -, hle⟩ := hE.form
  obtain ⟨Ac, cc, rfl, -, hlc⟩ := hC.form
  obtain ⟨w0, hw0⟩ : ∃ w0, w0 = w.alloc (.cells #[.slice Ae ds.length ce, .slice Ac cs.length cc] 26) := ⟨_, rfl⟩
  have hx0 : Ext w w0 := by rw [hw0]; exact (Ext.refl w).alloc _
  have k0 : w0.cell? ⟨w.heap.size, 0, none⟩ = some (.slice Ae ds.length ce) := by rw [hw0]; go_simp
  have k1 : w0.cell? ⟨w.heap.size, 1, none⟩ = some (.slice Ac cs.length cc) := by rw [hw0]; go_simp
  have ks : w.heap.size < w0.heap.size := by rw [hw0]; simp
  have HX0 := hide hx0
  have K1 := hide k1
  have hE0 := hide (hE.ext hx0)
  clear hE hC hx0 hG hT
  go_enter Tryz.func23, Tryz.ntmps23
  go_wp2_with fail
  rw [← hw0]
  clear hw0
  refine (fixpointC_any _ ds 50 #[.pointer (some ⟨w.heap.size, 0, none⟩)] (bndL edgeV cs) (GoodD cs ds.length) _ hE0.out HG.out (bnd_ok edgeOk) h4 h1 (fun args W => callFunc_body Tryz.func50 (by kernel_rfl) (by kernel_rfl) args W)
    (hide fun now v' W hW hS hgn => (bounds1_any Ae Ac ce cc w.heap.size v' ds now cs W ((hW.cells _ _ ks).trans K1.out) (Nat.lt_of_lt_of_le ks hW.size) (hM0.out.ext (HX0.out.trans hW)) hS (by rw [hgn.1]; exact hgn) (by rw [hgn.1]; exact h4) (by rw [hgn.1]; exact h1) (TzTab.ext HT.out hb (HX0.out.trans hW)) (Nat.lt_of_lt_of_le hb (HX0.out.trans hW).size)).mono (fun _ _ h => .inl h))).mono ?_
  rintro e w2 hres
  have HRES := hide (show OwnRes (bndR cs ds) w e w2 from OwnRes.from hres HX0.out)
  obtain ⟨A3, c3, b3, m3, f3, rfl, -⟩ := hres
  obtain ⟨L, hL⟩ : ∃ L, L = (fixL (bndL edgeV cs) 300 ds).length := ⟨_, rfl⟩
  rw [← hL]
  have HRES := hide (show OwnRes (bndR cs ds) w (.returned (.slice A3 L c3)) w2 by rw [hL]; exact HRES.out)
  clear hL
  go_wp2
  go_ret
  exact HRES.out
def bndV (ds : List Int) (cs : List Con) : List Int := if vMod ds cs = true then bndR cs ds else []
theorem bndR_good {cs : List Con} {n : Nat} {ds : List Int} (h : GoodD cs n ds) (h4 : n ≤ 4) : GoodD cs n (bndR cs ds) := by
  have hsum : sumL ds < 300 := by have := (sumL_bd ds h.2.1).2; have := h.1; omega
  obtain ⟨i, hg, hc⟩ := fixL_orbit (bnd_ok (cs := cs) edgeOk) 300 ds h hsum
  rcases hc with ⟨-, hy⟩ | ⟨-, -, hy⟩
  · unfold bndR; rw [hy]; exact h.zer
  · unfold bndR; rw [hy]; exact hg
theorem bndV_i64 (ds : List Int) (cs : List Con) : ∀ j, j < (bndV ds cs).length → I64 (at0 (bndV ds cs) j) := by
  intro j hj
  unfold bndV at hj ⊢
  split at hj
  · rename_i h
    obtain ⟨hG, hp, h4⟩ := vMod_good h
    rw [if_pos h]
    exact (bndR_good hG h4).i64 j hj
  · simp at hj
theorem bndV_len (ds : List Int) (cs : List Con) : (bndV ds cs).length ≤ 4 := by
  unfold bndV
  split
  · rename_i h
    obtain ⟨hG, hp, h4⟩ := vMod_good h
    rw [(bndR_good hG h4).1]
    exact h4
  · simp
set_option maxRecDepth 100000 in
set_option maxHeartbeats 4000000 in
theorem BoundsPropagateI_any (v : Value) (ds : List Int) (cs : List Con) (w : World) (hM : SMod w v ds cs) (hT : TzTab w) (hb : 1 < w.heap.size) :
    Calls Tryz.prog 6 #[v] w (OwnRes (bndV ds cs) w) := by
  have hM0 := hide hM
  obtain ⟨ve, vc, rfl, hE, hC⟩ := hM
  obtain ⟨Ae, ce, rfl, -, hle⟩ := hE.form
  obtain ⟨Ac, cc, rfl, -, hlc⟩ := hC.form
  obtain ⟨w0, hw0⟩ : ∃ w0, w0 = w.alloc (.cells #[.slice Ae ds.length ce, .slice Ac cs.length cc] 26) := ⟨_, rfl⟩
  have hx0 : Ext w w0 := by rw [hw0]; exact (Ext.refl w).alloc _
  have k0 : w0.cell? ⟨w.heap.size, 0, none⟩ = some (.slice Ae ds.length ce) := by rw [hw0]; go_simp
  have k1 : w0.cell? ⟨w.heap.size, 1, none⟩ = some (.slice Ac cs.length cc) := by rw [hw0]; go_simp
  have ks : w.heap.size < w0.heap.size := by rw [hw0]; simp
  have HX0 := hide hx0
  have hE0 := hide hE
  have hC0 := hide hC
  have HT := hide hT
  clear hT
  clear hE hC hx0
  go_enter Tryz.func6, Tryz.ntmps6
  go_wp2_with fail
  rw [← hw0]
  clear hw0
  refine (ValidModelI_any _ _ ds cs _ (hE0.out.ext HX0.out) (hC0.out.ext HX0.out) (fun i _ => fits_all (con0 cs i))).mono ?_
  rintro e w1 ⟨rfl, hx1⟩
  have HX1 := hide (HX0.out.trans hx1)
  have k0 := (hx1.cells _ _ ks).trans k0
  have k1 := (hx1.cells _ _ ks).trans k1
  clear hx1
  cases hv : vMod ds cs with
  | false =>
    have HV := hide (show bndV ds cs = [] by rw [bndV, hv]; rfl)
    clear hv
    go_wp2
    go_ret
    rw [HV.out]
    exact OwnRes.nil_ rfl HX1.out
  | true =>
    have HV := hide (show bndV ds cs = bndR cs ds by rw [bndV, hv]; rfl)
    obtain ⟨hG, hp, h4⟩ := vMod_good hv
    have HG := hide hG
    have HBS := hide (bnd_same h4 hG)
    clear hv hG
    go_wp2_with fail
    refine (boundsI_any _ ds cs _ (hM0.out.ext HX1.out) HG.out h4 hp (TzTab.ext HT.out hb HX1.out) (Nat.lt_of_lt_of_le hb HX1.out.size)).mono ?_
    rintro e w2 hres
    have HRES := hide (show OwnRes (bndV ds cs) w e w2 by rw [HV.out]; exact OwnRes.from hres HX1.out)
    obtain ⟨A3, c3, b3, m3, f3, rfl, -⟩ := hres
    obtain ⟨L, hL⟩ : ∃ L, L = (bndR cs ds).length := ⟨_, rfl⟩
    rw [← hL] at HRES ⊢
    clear hL
    go_wp2
    go_ret
    exact HRES.out
set_option maxRecDepth 100000 in
set_option maxHeartbeats 4000000 in
theorem BoundsPropagateS_any (v : Value) (ds : List Int) (cs : List Con) (w : World) (hM : SMod w v ds cs) :
    Calls Tryz.prog 8 #[v] w (OwnRes (bndV ds cs) w) := by
  have hM0 := hide hM
  obtain ⟨ve, vc, rfl, hE, hC⟩ := hM
  obtain ⟨Ae, ce, rfl, -, hle⟩ := hE.form
  obtain ⟨Ac, cc, rfl, -, hlc⟩ := hC.form
  obtain ⟨w0, hw0⟩ : ∃ w0, w0 = w.alloc (.cells #[.slice Ae ds.length ce, .slice Ac cs.length cc] 26) := ⟨_, rfl⟩
  have hx0 : Ext w w0 := by rw [hw0]; exact (Ext.refl w).alloc _
  have k0 : w0.cell? ⟨w.heap.size, 0, none⟩ = some (.slice Ae ds.length ce) := by rw [hw0]; go_simp
  have k1 : w0.cell? ⟨w.heap.size, 1, none⟩ = some (.slice Ac cs.length cc) := by rw [hw0]; go_simp
  have ks : w.heap.size < w0.heap.size := by rw [hw0]; simp
  have HX0 := hide hx0
  have hE0 := hide hE
  have hC0 := hide hC
  clear hE hC hx0
  go_enter Tryz.func8, Tryz.ntmps8
  go_wp2_with fail
  rw [← hw0]
  clear hw0
  refine (validModelS_any _ ds cs _ (hM0.out.ext HX0.out)).mono ?_
  rintro e w1 ⟨rfl, hx1⟩
  have HX1 := hide (HX0.out.trans hx1)
  have k0 := (hx1.cells _ _ ks).trans k0
  have k1 := (hx1.cells _ _ ks).trans k1
  clear hx1
  cases hv : vMod ds cs with
  | false =>
    have HV := hide (show bndV ds cs = [] by rw [bndV, hv]; rfl)
    clear hv
    go_wp2
    go_ret
    rw [HV.out]
    exact OwnRes.nil_ rfl HX1.out
  | true =>
    have HV := hide (show bndV ds cs = bndR cs ds by rw [bndV, hv]; rfl)
    obtain ⟨hG, hp, h4⟩ := vMod_good hv
    have HG := hide hG
    have HBS := hide (bnd_same h4 hG)
    clear hv hG
    go_wp2_with fail
    refine (boundsFixpoint_any _ ds cs _ (hM0.out.ext HX1.out) HG.out h4 hp).mono ?_
    rintro e w2 hres
    rw [HBS.out] at hres
    change OwnRes (bndR cs ds) w1 e w2 at hres
    have HRES := hide (show OwnRes (bndV ds cs) w e w2 by rw [HV.out]; exact OwnRes.from hres HX1.out)
    obtain ⟨A3, c3, b3, m3, f3, rfl, -⟩ := hres
    obtain ⟨L, hL⟩ : ∃ L, L = (bndR cs ds).length := ⟨_, rfl⟩
    rw [← hL] at HRES ⊢
    clear hL
    go_wp2
    go_ret
    exact HRES.out
end Go.Proofs.YtkjbefokgmiehaaGreatDoor
