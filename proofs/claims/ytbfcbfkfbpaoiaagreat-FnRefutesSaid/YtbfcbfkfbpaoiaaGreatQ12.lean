/- Literals and clauses in plain Lean: what they leave of domains; the fixpoint with clauses. -/
import Derived.Test.YtbfcbfkfbpaoiaaGreatPropP
import Derived.Test.YtbfcbfkfbpaoiaaGreatLawM
import Derived.Test.YtbfcbfkfbpaoiaaGreatQ5
import Derived.Test.YtbfcbfkfbpaoiaaGreatDom
import Derived.Test.YtbfcbfkfbpaoiaaGreatGenS
import Derived.Test.YtbfcbfkfbpaoiaaGreatQ7
import Derived.Lib.AppendZerosOnto
import Derived.Lib.Walk
import Derived.Lib.SliceRun
namespace Go.Proofs.YtbfcbfkfbpaoiaaGreat
open Go.RowKit

/-- A literal. -/
structure Lt where
  x : Int
  v : Int
  n : Bool
def lt0 (rs : List Lt) (i : Nat) : Lt := rs.getD i ⟨0, 0, false⟩
def ltX (rs : List Lt) (i : Nat) : Int := (lt0 rs i).x
def ltV (rs : List Lt) (i : Nat) : Int := (lt0 rs i).v
def ltN (rs : List Lt) (i : Nat) : Bool := (lt0 rs i).n
def cl0 (cls : List (List Lt)) (i : Nat) : List Lt := cls.getD i []
def okLt (l : Lt) (n : Int) : Bool := inR l.x 0 (n - 1) && inR l.v 0 5
/-- The one comes ahead of the other. -/
def lsB (a b : Lt) : Bool := decide (a.x < b.x) || (decide (a.x = b.x) && (decide (a.v < b.v) || (decide (a.v = b.v) && (!a.n && b.n))))
def badAt (ls : List Lt) (n : Int) (i : Nat) : Bool := !okLt (lt0 ls i) n || (decide (0 < i) && !lsB (lt0 ls (i - 1)) (lt0 ls i))
def okCl (ls : List Lt) (n : Int) : Bool := !anyB (fun i => badAt ls n i) ls.length && decide (ls.length ≤ 12)
theorem okCl_bad {ls : List Lt} {n : Int} {i : Nat} (hi : i < ls.length) (h : badAt ls n i = true) : okCl ls n = false := by
  rw [okCl, anyB_iff.2 ⟨i, hi, h⟩]; rfl
theorem okCl_all {ls : List Lt} {n : Int} (h : ∀ i, i < ls.length → badAt ls n i = false) : okCl ls n = decide (ls.length ≤ 12) := by
  rw [okCl, anyB_false.2 h]; rfl
theorem okCl_len {ls : List Lt} {n : Int} (h : okCl ls n = true) : ls.length ≤ 12 := by
  simp only [okCl, Bool.and_eq_true, decide_eq_true_eq] at h
  exact h.2
theorem okCl_lt {ls : List Lt} {n : Nat} (h : okCl ls n = true) {i : Nat} (hi : i < ls.length) : ∃ x v : Nat, ltX ls i = x ∧ ltV ls i = v ∧ x < n ∧ v < 6 := by
  simp only [okCl, Bool.and_eq_true, Bool.not_eq_true'] at h
  have := anyB_false.1 h.1 i hi
  simp only [badAt, Bool.or_eq_false_iff, Bool.not_eq_false', okLt, Bool.and_eq_true, inR, decide_eq_true_eq] at this
  obtain ⟨⟨⟨h1, h2⟩, h3, h4⟩, -⟩ := this
  exact ⟨(ltX ls i).toNat, (ltV ls i).toNat, by unfold ltX; omega, by unfold ltV; omega, by unfold ltX; omega, by unfold ltV; omega⟩
theorem okCl_ls {ls : List Lt} {n : Int} (h : okCl ls n = true) {i : Nat} (hi : i + 1 < ls.length) : lsB (lt0 ls i) (lt0 ls (i + 1)) = true := by
  simp only [okCl, Bool.and_eq_true, Bool.not_eq_true'] at h
  have := anyB_false.1 h.1 (i + 1) hi
  simp only [badAt, Bool.or_eq_false_iff] at this
  have h2 := this.2
  simpa using h2
/-- A domain with the values that make a literal true. -/
def andL (d : Int) (l : Lt) : Int := if l.n = true then delV d l.v.toNat else andV d l.v.toNat
theorem andL_bd {d : Int} (h0 : 0 ≤ d) (h1 : d ≤ 63) {l : Lt} (hv : l.v.toNat < 6) : 0 ≤ andL d l ∧ andL d l ≤ 63 := by
  unfold andL
  split
  · exact delV_bd h0 h1 hv
  · exact andV_bd h0 h1 hv
theorem andL_has {d : Int} (h0 : 0 ≤ d) (h1 : d ≤ 63) {l : Lt} (hv : l.v.toNat < 6) {u : Nat} (hu : u < 6) (h : hasB (andL d l) u = true) : hasB d u = true := by
  unfold andL at h
  split at h
  · rw [delV_has h0 h1 hv hu, Bool.and_eq_true] at h; exact h.1
  · rw [andV_has h0 h1 hv hu, Bool.and_eq_true] at h; exact h.1
/-- Domains with the first k literals true. -/
def resC (ds : List Int) (ls : List Lt) : Nat → List Int
  | 0 => ds
  | k + 1 => (resC ds ls k).set (ltX ls k).toNat (andL (at0 (resC ds ls k) (ltX ls k).toNat) (lt0 ls k))
def resCL (ds : List Int) (ls : List Lt) : List Int := resC ds ls ls.length
section
variable {cs : List Con} {n : Nat}
theorem andL_set {ds : List Int} (h : GoodD cs n ds) {ls : List Lt} (hc : okCl ls n = true) {k : Nat} (hk : k < ls.length) :
    GoodD cs n (ds.set (ltX ls k).toNat (andL (at0 ds (ltX ls k).toNat) (lt0 ls k))) ∧ SubD (ds.set (ltX ls k).toNat (andL (at0 ds (ltX ls k).toNat) (lt0 ls k))) ds := by
  obtain ⟨x, v, hx, hv, hxn, hv6⟩ := okCl_lt hc hk
  have hv' : (lt0 ls k).v.toNat < 6 := by show (ltV ls k).toNat < 6; omega
  rw [hx, Int.toNat_natCast]
  have hd := h.2.1 x (by rw [h.1]; exact hxn)
  exact ⟨h.set x (andL_bd hd.1 hd.2 hv'), sub_set (by rw [h.1]; exact hxn) (fun u hu hh => andL_has hd.1 hd.2 hv' hu hh)⟩
theorem resC_good {ds : List Int} (h : GoodD cs n ds) {ls : List Lt} (hc : okCl ls n = true) : ∀ k, k ≤ ls.length → GoodD cs n (resC ds ls k) ∧ SubD (resC ds ls k) ds
  | 0, _ => ⟨h, SubD.refl _⟩
  | k + 1, hk => by
    obtain ⟨h1, h2⟩ := resC_good h hc k (by omega)
    obtain ⟨h3, h4⟩ := andL_set h1 hc (k := k) (by omega)
    exact ⟨h3, h4.trans h2⟩
/-- Literal i is not false. -/
def opB (ds : List Int) (ls : List Lt) (i : Nat) : Bool := !(andL (at0 ds (ltX ls i).toNat) (lt0 ls i) == 0)
def cntO (ds : List Int) (ls : List Lt) : Nat → Nat
  | 0 => 0
  | k + 1 => if opB ds ls k = true then cntO ds ls k + 1 else cntO ds ls k
def lastO (ds : List Int) (ls : List Lt) : Nat → Nat
  | 0 => 0
  | k + 1 => if opB ds ls k = true then k else lastO ds ls k
theorem lastO_lt (ds : List Int) (ls : List Lt) : ∀ k, 0 < cntO ds ls k → lastO ds ls k < k
  | 0, h => by simp [cntO] at h
  | k + 1, h => by
    rw [lastO]
    rw [cntO] at h
    split
    · omega
    · rename_i h2
      rw [if_neg h2] at h
      have := lastO_lt ds ls k h
      omega
theorem cntO_le (ds : List Int) (ls : List Lt) : ∀ k, cntO ds ls k ≤ k
  | 0 => Nat.le_refl _
  | k + 1 => by have := cntO_le ds ls k; rw [cntO]; split <;> omega
theorem cntO_mono (ds : List Int) (ls : List Lt) (k : Nat) : ∀ m, cntO ds ls k ≤ cntO ds ls (k + m)
  | 0 => Nat.le_refl _
  | m + 1 => by have := cntO_mono ds ls k m; rw [← Nat.add_assoc, cntO]; split <;> omega
def unitL (ds : List Int) (ls : List Lt) : List Int :=
  if cntO ds ls ls.length = 0 then zer ds.length else if cntO ds ls ls.length = 1 then ds.set (ltX ls (lastO ds ls ls.length)).toNat (andL (at0 ds (ltX ls (lastO ds ls ls.length)).toNat) (lt0 ls (lastO ds ls ls.length))) else ds
theorem unitL_good {ds : List Int} (h : GoodD cs n ds) {ls : List Lt} (hc : okCl ls n = true) : GoodD cs n (unitL ds ls) ∧ SubD (unitL ds ls) ds := by
  unfold unitL
  split
  · rw [h.1]; exact ⟨h.zer, zer_sub h.1⟩
  · split
    · exact andL_set h hc (lastO_lt _ _ _ (by omega))
    · exact ⟨h, SubD.refl _⟩
def clK (cls : List (List Lt)) (ds : List Int) : Nat → List Int
  | 0 => ds
  | k + 1 => unitL (clK cls ds k) (cl0 cls k)
def stC (cs : List Con) (cls : List (List Lt)) (ds : List Int) : List Int := clK cls (propL cs ds) cls.length
def okCls (cls : List (List Lt)) (n : Int) : Bool := decide (cls.length ≤ 200) && !anyB (fun i => !okCl (cl0 cls i) n) cls.length
theorem okCls_at {cls : List (List Lt)} {n : Int} (h : okCls cls n = true) {i : Nat} (hi : i < cls.length) : okCl (cl0 cls i) n = true := by
  simp only [okCls, Bool.and_eq_true, Bool.not_eq_true'] at h
  simpa using anyB_false.1 h.2 i hi
theorem okCls_nil (n : Int) : okCls [] n = true := by simp [okCls, anyB]
theorem clK_good {ds : List Int} (h : GoodD cs n ds) {cls : List (List Lt)} (hc : ∀ i, i < cls.length → okCl (cl0 cls i) n = true) : ∀ k, k ≤ cls.length → GoodD cs n (clK cls ds k) ∧ SubD (clK cls ds k) ds
  | 0, _ => ⟨h, SubD.refl _⟩
  | k + 1, hk => by
    obtain ⟨h1, h2⟩ := clK_good h hc k (by omega)
    obtain ⟨h3, h4⟩ := unitL_good h1 (hc k (by omega))
    exact ⟨h3, h4.trans h2⟩
theorem stC_ok (h4 : n ≤ 4) {cls : List (List Lt)} (hc : ∀ i, i < cls.length → okCl (cl0 cls i) n = true) : StOK (stC cs cls) (GoodD cs n) n := by
  refine ⟨fun _ h => h.2.1, fun _ h => h.1, fun ds h => ?_, fun ds h => ?_⟩
  · have hr := propL_R h h4
    exact (clK_good hr.good hc _ (Nat.le_refl _)).2.trans hr.sub
  · exact (clK_good (propL_R h h4).good hc _ (Nat.le_refl _)).1
def cluL (cs : List Con) (cls : List (List Lt)) (ds : List Int) : List Int := fixL (stC cs cls) 300 ds
theorem fixL_cas {st : List Int → List Int} (h4 : n ≤ 4) (hst : StOK st (GoodD cs n) n) {ds : List Int} (h : GoodD cs n ds) : GoodD cs n (fixL st 300 ds) ∧ (fixL st 300 ds = zer n ∨ hasI (fixL st 300 ds) 0 = false) := by
  have hsum : sumL ds < 300 := by have := (sumL_bd ds h.2.1).2; have := h.1; omega
  obtain ⟨i, hg, hc⟩ := fixL_orbit hst 300 ds h hsum
  rcases hc with ⟨-, hy⟩ | ⟨h0, -, hy⟩
  · rw [hy]; exact ⟨h.zer, .inl rfl⟩
  · rw [hy]; exact ⟨hg, .inr h0⟩
theorem fixL_first {st : List Int → List Int} (h4 : n ≤ 4) (h0 : 0 < n) (hst : StOK st (GoodD cs n) n) {ds : List Int} (h : GoodD cs n ds) : (at0 (fixL st 300 ds) 0 == 0) = hasI (fixL st 300 ds) 0 := by
  obtain ⟨hg, hc⟩ := fixL_cas h4 hst h
  rcases hc with e | e
  · rw [e, hasI_zer h0, zer_at]; rfl
  · rw [e]
    have : at0 (fixL st 300 ds) 0 ≠ 0 := fun h2 => by
      have := hasI_iff.2 ⟨0, by rw [hg.1]; exact h0, h2⟩
      rw [e] at this; cases this
    simpa using this
theorem sub_hasI {a b : List Int} (h : SubD a b) (ha : DomL a) (hb : hasI b 0 = true) : hasI a 0 = true := by
  obtain ⟨i, hi, e⟩ := hasI_iff.1 hb
  have hi' : i < a.length := by rw [h.1]; exact hi
  refine hasI_iff.2 ⟨i, hi', ?_⟩
  refine dom_ext (ha i hi') (by omega) fun v hv => ?_
  rw [hasB_zero]
  cases hh : hasB (at0 a i) v with
  | false => rfl
  | true =>
    have := h.2 i hi' v hv hh
    rw [e, hasB_zero] at this
    cases this
/-- A round of the reference: it looks at what a round leaves. -/
theorem ref_empty {st : List Int → List Int} (hst : StOK st (GoodD cs n) n) {ds : List Int} (h : GoodD cs n ds) {k : Nat} (hs : sumL ds < k + 1) (he : hasI (st ds) 0 = true) : fixL st (k + 1) ds = zer n := by
  rw [fixL]
  cases h0 : hasI ds 0 with
  | true => rw [if_pos rfl, h.1]
  | false =>
    rw [if_neg (by simp)]
    have hne : st ds ≠ ds := fun e => by rw [e, h0] at he; cases he
    rw [if_neg hne]
    have hlt := SubD.sum (hst.dom _ (hst.stay ds h)) h.2.1 (hst.sub ds h) hne
    have hnn := (sumL_bd (st ds) (hst.dom _ (hst.stay ds h))).1
    obtain ⟨j, rfl⟩ : ∃ j, k = j + 1 := ⟨k - 1, by omega⟩
    rw [fixL, if_pos he, (hst.stay ds h).1]
theorem ref_full {st : List Int → List Int} {ds : List Int} {k : Nat} (he : hasI (st ds) 0 = false) (hne : st ds = ds) : fixL st (k + 1) ds = ds := by
  rw [hne] at he
  rw [fixL, he, if_neg (by simp), if_pos hne]
theorem ref_on {st : List Int → List Int} (hst : StOK st (GoodD cs n) n) {ds : List Int} (h : GoodD cs n ds) {k : Nat} (hs : sumL ds < k + 1) (he : hasI (st ds) 0 = false) (hne : st ds ≠ ds) : fixL st (k + 1) ds = fixL st k (st ds) ∧ sumL (st ds) < k := by
  have h0 : hasI ds 0 = false := by
    cases h0 : hasI ds 0 with
    | false => rfl
    | true => rw [sub_hasI (hst.sub ds h) (hst.dom _ (hst.stay ds h)) h0] at he; cases he
  have hlt := SubD.sum (hst.dom _ (hst.stay ds h)) h.2.1 (hst.sub ds h) hne
  rw [fixL, h0, if_neg (by simp), if_neg hne]
  exact ⟨rfl, by omega⟩
theorem cluL_nil (h4 : n ≤ 4) (h0 : 0 < n) {ds : List Int} (h : GoodD cs n ds) : cluL cs [] ds = propL cs ds := by
  have hst : StOK (stC cs []) (GoodD cs n) n := stC_ok h4 (fun i hi => absurd hi (by simp))
  have hsum : sumL ds < 299 + 1 := by have := (sumL_bd ds h.2.1).2; have := h.1; omega
  have hr := propL_R h h4
  have e1 : stC cs [] ds = propL cs ds := rfl
  have e2 : stC cs [] (propL cs ds) = propL cs ds := propL_idem h h4 h0
  unfold cluL
  rw [show (300 : Nat) = 299 + 1 from rfl]
  cases he : hasI (propL cs ds) 0 with
  | true => rw [ref_empty hst h hsum (by rw [e1]; exact he), propL_empty h h4 he]
  | false =>
    by_cases hne : propL cs ds = ds
    · rw [ref_full (by rw [e1]; exact he) (by rw [e1]; exact hne)]; exact hne.symm
    · obtain ⟨h1, h2⟩ := ref_on hst h hsum (by rw [e1]; exact he) (by rw [e1]; exact hne)
      rw [h1, e1]
      exact ref_full (k := 298) (by rw [e2]; exact he) e2
end
end Go.Proofs.YtbfcbfkfbpaoiaaGreat
/- Literals: how they read; the laws' copies, sizes and comparisons of them. -/
namespace Go.Proofs.YtbfcbfkfbpaoiaaGreat
open Go.RowKit

/-- v is a slice whose cells read as the literals rs. -/
def SLt (w : World) (v : Value) (rs : List Lt) : Prop :=
  ∃ A c, v = .slice A rs.length c ∧ rs.length ≤ c ∧ rs.length * 24 ≤ 140737488355328 ∧
    (0 < rs.length → ∃ b off, A = some ⟨b, off, none⟩ ∧ b < w.heap.size ∧ ∀ i, i < rs.length → w.cell? ⟨b, off + i * 3, none⟩ = some (.int .i64 (ltX rs i)) ∧ w.cell? ⟨b, off + i * 3 + 1, none⟩ = some (.int .i64 (ltV rs i)) ∧ w.cell? ⟨b, off + i * 3 + 2, none⟩ = some (.bool (ltN rs i)))
theorem SLt.ext {w w' : World} {v : Value} {rs : List Lt} (h : SLt w v rs) (hx : Ext w w') : SLt w' v rs := by
  obtain ⟨A, c, h1, h2, h3, h5⟩ := h
  refine ⟨A, c, h1, h2, h3, fun hp => ?_⟩
  obtain ⟨b, off, e, hb, hc⟩ := h5 hp
  refine ⟨b, off, e, Nat.lt_of_lt_of_le hb hx.size, fun i hi => ?_⟩
  obtain ⟨g1, g2, g3⟩ := hc i hi
  exact ⟨(hx.cell (p := ⟨b, _, none⟩) hb).trans g1, (hx.cell (p := ⟨b, _, none⟩) hb).trans g2, (hx.cell (p := ⟨b, _, none⟩) hb).trans g3⟩
theorem SLt.form {w : World} {v : Value} {rs : List Lt} (h : SLt w v rs) : ∃ A c, v = .slice A rs.length c ∧ rs.length ≤ c ∧ rs.length ≤ 5864062014805 := by
  obtain ⟨A, c, h1, h2, h3, -⟩ := h
  exact ⟨A, c, h1, h2, by omega⟩
theorem SLt.at_ {w : World} {A : Option Addr} {n c : Nat} {rs : List Lt} (h : SLt w (.slice A n c) rs) {k : Nat} (hk : k < rs.length) :
    ∃ b off, A = some ⟨b, off, none⟩ ∧ b < w.heap.size ∧ w.cell? ⟨b, off + k * 3, none⟩ = some (.int .i64 (ltX rs k)) ∧ w.cell? ⟨b, off + k * 3 + 1, none⟩ = some (.int .i64 (ltV rs k)) ∧ w.cell? ⟨b, off + k * 3 + 2, none⟩ = some (.bool (ltN rs k)) := by
  obtain ⟨A', c', h1, -, -, h5⟩ := h
  injection h1 with e1 e2 e3
  subst e1
  obtain ⟨b, off, e, hb, hc⟩ := h5 (by omega)
  exact ⟨b, off, e, hb, hc k hk⟩
theorem SLt.nil_ (w : World) : SLt w (.slice none 0 0) [] := ⟨none, 0, rfl, Nat.le_refl _, by simp, fun h => absurd h (by simp)⟩
def ltW (r : Lt) : Value := .agg #[.int .i64 r.x, .int .i64 r.v, .bool r.n]
theorem Tryz.infoLt : (Tryz.prog.info? 34).map (fun i => (i.zero, i.size, i.bytes)) = some (some (.agg #[.int .i64 0, .int .i64 0, .bool false]), 3, 24) := by kernel_rfl
/-- The copied cells: the first k literals, then zeros. -/
def lcell (rs : List Lt) (k j : Nat) : Value := if j < 3 * k then (if j % 3 = 0 then .int .i64 (ltX rs (j / 3)) else if j % 3 = 1 then .int .i64 (ltV rs (j / 3)) else .bool (ltN rs (j / 3))) else (if j % 3 = 2 then .bool false else .int .i64 0)
theorem lcell_step (rs : List Lt) (k j : Nat) : (if j = k * 3 + 2 then Value.bool (ltN rs k) else if j = k * 3 + 1 then .int .i64 (ltV rs k) else if j = k * 3 then .int .i64 (ltX rs k) else lcell rs k j) = lcell rs (k + 1) j := by
  unfold lcell
  by_cases h2 : j = k * 3 + 2
  · subst h2
    rw [if_pos rfl, if_pos (by omega), if_neg (by omega), if_neg (by omega), show (k * 3 + 2) / 3 = k by omega]
  by_cases h1 : j = k * 3 + 1
  · subst h1
    rw [if_neg (by omega), if_pos rfl, if_pos (by omega), if_neg (by omega), if_pos (by omega), show (k * 3 + 1) / 3 = k by omega]
  by_cases h0 : j = k * 3
  · subst h0
    rw [if_neg (by omega), if_neg (by omega), if_pos rfl, if_pos (by omega), if_pos (by omega), show (k * 3) / 3 = k by omega]
  rw [if_neg h2, if_neg h1, if_neg h0]
  by_cases h : j < 3 * k
  · rw [if_pos h, if_pos (show j < 3 * (k + 1) by omega)]
  · rw [if_neg h, if_neg (show ¬ j < 3 * (k + 1) by omega)]
theorem SLt.of_row {w : World} {b : Nat} {t : TypeId} {rs : List Lt} (h : w.rowIs b t (rs.length * 3) (lcell rs rs.length)) (hc : rs.length * 24 ≤ 140737488355328) : SLt w (.slice (some ⟨b, 0, none⟩) rs.length rs.length) rs := by
  refine ⟨_, _, rfl, Nat.le_refl _, hc, fun _ => ⟨b, 0, rfl, h.lt, fun i hi => ⟨?_, ?_, ?_⟩⟩⟩
  · rw [Nat.zero_add, h.cell (by omega)]
    unfold lcell
    rw [if_pos (by omega), if_pos (by omega), show (i * 3) / 3 = i by omega]
  · rw [Nat.zero_add, h.cell (by omega)]
    unfold lcell
    rw [if_pos (by omega), if_neg (by omega), if_pos (by omega), show (i * 3 + 1) / 3 = i by omega]
  · rw [Nat.zero_add, h.cell (by omega)]
    unfold lcell
    rw [if_pos (by omega), if_neg (by omega), if_neg (by omega), show (i * 3 + 2) / 3 = i by omega]
theorem zero3l (i : Nat) : (Value.agg #[.int .i64 0, .int .i64 0, .bool false]).cells[i % (Value.agg #[.int .i64 0, .int .i64 0, .bool false]).cells.size]! = if i % 3 = 2 then .bool false else .int .i64 0 := by
  have h2 : i % 3 < 3 := Nat.mod_lt _ (by omega)
  show #[Value.int .i64 0, Value.int .i64 0, Value.bool false][i % 3]! = _
  generalize i % 3 = q at h2
  match q, h2 with
  | 0, _ => rfl
  | 1, _ => rfl
  | 2, _ => rfl
def NewLts (rs : List Lt) (w : World) (e : Ending) (w' : World) : Prop :=
  ∃ b, w.heap.size ≤ b ∧ e = .returned (.slice (some ⟨b, 0, none⟩) rs.length rs.length) ∧ w'.rowIs b 34 (rs.length * 3) (lcell rs rs.length) ∧ Ext w w'
end Go.Proofs.YtbfcbfkfbpaoiaaGreat
/- Literals: slices.Clone, Grow, Concat and Clip, and shrunk of the program. -/
namespace Go.Proofs.YtbfcbfkfbpaoiaaGreat
open Go.RowKit
attribute [local go_sem] evalOf

def layLt : Lay Lt := ⟨34, 27, 3, 24, .agg #[.int .i64 0, .int .i64 0, .bool false], fun l => [.int .i64 l.x, .int .i64 l.v, .bool l.n]⟩
theorem layLtOk : LayOk layLt Tryz.prog := by
  refine ⟨by show 0 < 3; omega, fun x => rfl, fun x u hu => ?_, Tryz.underlying27, ?_, rfl⟩
  · simp [layLt] at hu
    rcases hu with rfl | rfl | rfl <;> rfl
  · have h : (Tryz.prog.info? 34).map (fun i => (i.zero, i.size, i.bytes)) = some (some (.agg #[.int .i64 0, .int .i64 0, .bool false]), 3, 24) := by kernel_rfl
    obtain ⟨i, h1, h2⟩ := Option.map_eq_some_iff.1 h
    simp only [Prod.mk.injEq] at h2
    exact ⟨i, h1, h2.1, h2.2.1, h2.2.2⟩
end Go.Proofs.YtbfcbfkfbpaoiaaGreat
