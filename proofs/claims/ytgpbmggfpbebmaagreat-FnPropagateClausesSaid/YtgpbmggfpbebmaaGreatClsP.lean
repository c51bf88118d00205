/- Literals and clauses in plain Lean: what they leave of domains; the fixpoint with clauses. -/
import Derived.Test.YtgpbmggfpbebmaaGreatPrpZ
namespace Go.Proofs.YtgpbmggfpbebmaaGreat
open Go.RowKit

/-- A literal. -/
structure Lt where
  x : Int
  v : Int
  n : Bool
def lt0 (rs : List Lt) (i : Nat) : Lt := rs.getD i ⟨0, 0, false⟩
def ltX (rs : List Lt) (i : Nat) : Int := (lt0 rs i).x
def ltV (rs : List Lt) (i : Nat) : Int := (lt0 rs i).v
def ltN (rs : List Lt) (i : Nat) : Bool := (lt0 rs i).n
def cl0 (cls : List (List Lt)) (i : Nat) : List Lt := cls.getD i []
def okLt (l : Lt) (n : Int) : Bool := inR l.x 0 (n - 1) && inR l.v 0 5
/-- The one comes ahead of the other. -/
def lsB (a b : Lt) : Bool := decide (a.x < b.x) || (decide (a.x = b.x) && (decide (a.v < b.v) || (decide (a.v = b.v) && (!a.n && b.n))))
def badAt (ls : List Lt) (n : Int) (i : Nat) : Bool := !okLt (lt0 ls i) n || (decide (0 < i) && !lsB (lt0 ls (i - 1)) (lt0 ls i))
def okCl (ls : List Lt) (n : Int) : Bool := !anyB (fun i => badAt ls n i) ls.length && decide (ls.length ≤ 12)
theorem okCl_bad {ls : List Lt} {n : Int} {i : Nat} (hi : i < ls.length) (h : badAt ls n i = true) : okCl ls n = false := by
  rw [okCl, anyB_iff.2 ⟨i, hi, h⟩]; rfl
theorem okCl_all {ls : List Lt} {n : Int} (h : ∀ i, i < ls.length → badAt ls n i = false) : okCl ls n = decide (ls.length ≤ 12) := by
  rw [okCl, anyB_false.2 h]; rfl
theorem okCl_len {ls : List Lt} {n : Int} (h : okCl ls n = true) : ls.length ≤ 12 := by
  simp only [okCl, Bool.and_eq_true, decide_eq_true_eq] at h
  exact h.2
theorem okCl_lt {ls : List Lt} {n : Nat} (h : okCl ls n = true) {i : Nat} (hi : i < ls.length) : ∃ x v : Nat, ltX ls i = x ∧ ltV ls i = v ∧ x < n ∧ v < 6 := by
  simp only [okCl, Bool.and_eq_true, Bool.not_eq_true'] at h
  have := anyB_false.1 h.1 i hi
  simp only [badAt, Bool.or_eq_false_iff, Bool.not_eq_false', okLt, Bool.and_eq_true, inR, decide_eq_true_eq] at this
  obtain ⟨⟨⟨h1, h2⟩, h3, h4⟩, -⟩ := this
  exact ⟨(ltX ls i).toNat, (ltV ls i).toNat, by unfold ltX; omega, by unfold ltV; omega, by unfold ltX; omega, by unfold ltV; omega⟩
theorem okCl_ls {ls : List Lt} {n : Int} (h : okCl ls n = true) {i : Nat} (hi : i + 1 < ls.length) : lsB (lt0 ls i) (lt0 ls (i + 1)) = true := by
  simp only [okCl, Bool.and_eq_true, Bool.not_eq_true'] at h
  have := anyB_false.1 h.1 (i + 1) hi
  simp only [badAt, Bool.or_eq_false_iff] at this
  have h2 := this.2
  simpa using h2
/-- A domain with the values that make a literal true. -/
def andL (d : Int) (l : Lt) : Int := if l.n = true then delV d l.v.toNat else andV d l.v.toNat
theorem andL_bd {d : Int} (h0 : 0 ≤ d) (h1 : d ≤ 63) {l : Lt} (hv : l.v.toNat < 6) : 0 ≤ andL d l ∧ andL d l ≤ 63 := by
  unfold andL
  split
  · exact delV_bd h0 h1 hv
  · exact andV_bd h0 h1 hv
theorem andL_has {d : Int} (h0 : 0 ≤ d) (h1 : d ≤ 63) {l : Lt} (hv : l.v.toNat < 6) {u : Nat} (hu : u < 6) (h : hasB (andL d l) u = true) : hasB d u = true := by
  unfold andL at h
  split at h
  · rw [delV_has h0 h1 hv hu, Bool.and_eq_true] at h; exact h.1
  · rw [andV_has h0 h1 hv hu, Bool.and_eq_true] at h; exact h.1
/-- Domains with the first k literals true. -/
def resC (ds : List Int) (ls : List Lt) : Nat → List Int
  | 0 => ds
  | k + 1 => (resC ds ls k).set (ltX ls k).toNat (andL (at0 (resC ds ls k) (ltX ls k).toNat) (lt0 ls k))
def resCL (ds : List Int) (ls : List Lt) : List Int := resC ds ls ls.length
section
variable {cs : List Con} {n : Nat}
theorem andL_set {ds : List Int} (h : GoodD cs n ds) {ls : List Lt} (hc : okCl ls n = true) {k : Nat} (hk : k < ls.length) :
    GoodD cs n (ds.set (ltX ls k).toNat (andL (at0 ds (ltX ls k).toNat) (lt0 ls k))) ∧ SubD (ds.set (ltX ls k).toNat (andL (at0 ds (ltX ls k).toNat) (lt0 ls k))) ds := by
  obtain ⟨x, v, hx, hv, hxn, hv6⟩ := okCl_lt hc hk
  have hv' : (lt0 ls k).v.toNat < 6 := by show (ltV ls k).toNat < 6; omega
  rw [hx, Int.toNat_natCast]
  have hd := h.2.1 x (by rw [h.1]; exact hxn)
  exact ⟨h.set x (andL_bd hd.1 hd.2 hv'), sub_set (by rw [h.1]; exact hxn) (fun u hu hh => andL_has hd.1 hd.2 hv' hu hh)⟩
theorem resC_good {ds : List Int} (h : GoodD cs n ds) {ls : List Lt} (hc : okCl ls n = true) : ∀ k, k ≤ ls.length → GoodD cs n (resC ds ls k) ∧ SubD (resC ds ls k) ds
  | 0, _ => ⟨h, SubD.refl _⟩
  | k + 1, hk => by
    obtain ⟨h1, h2⟩ := resC_good h hc k (by omega)
    obtain ⟨h3, h4⟩ := andL_set h1 hc (k := k) (by omega)
    exact ⟨h3, h4.trans h2⟩
/-- Literal i is not false. -/
def opB (ds : List Int) (ls : List Lt) (i : Nat) : Bool := !(andL (at0 ds (ltX ls i).toNat) (lt0 ls i) == 0)
def cntO (ds : List Int) (ls : List Lt) : Nat → Nat
  | 0 => 0
  | k + 1 => if opB ds ls k = true then cntO ds ls k + 1 else cntO ds ls k
def lastO (ds : List Int) (ls : List Lt) : Nat → Nat
  | 0 => 0
  | k + 1 => if opB ds ls k = true then k else lastO ds ls k
theorem lastO_lt (ds : List Int) (ls : List Lt) : ∀ k, 0 < cntO ds ls k → lastO ds ls k < k
  | 0, h => by simp [cntO] at h
  | k + 1, h => by
    rw [lastO]
    rw [cntO] at h
    split
    · omega
    · rename_i h2
      rw [if_neg h2] at h
      have := lastO_lt ds ls k h
      omega
theorem cntO_le (ds : List Int) (ls : List Lt) : ∀ k, cntO ds ls k ≤ k
  | 0 => Nat.le_refl _
  | k + 1 => by have := cntO_le ds ls k; rw [cntO]; split <;> omega
theorem cntO_mono (ds : List Int) (ls : List Lt) (k : Nat) : ∀ m, cntO ds ls k ≤ cntO ds ls (k + m)
  | 0 => Nat.le_refl _
  | m + 1 => by have := cntO_mono ds ls k m; rw [← Nat.add_assoc, cntO]; split <;> omega
def unitL (ds : List Int) (ls : List Lt) : List Int :=
  if cntO ds ls ls.length = 0 then zer ds.length else if cntO ds ls ls.length = 1 then ds.set (ltX ls (lastO ds ls ls.length)).toNat (andL (at0 ds (ltX ls (lastO ds ls ls.length)).toNat) (lt0 ls (lastO ds ls ls.length))) else ds
theorem unitL_good {ds : List Int} (h : GoodD cs n ds) {ls : List Lt} (hc : okCl ls n = true) : GoodD cs n (unitL ds ls) ∧ SubD (unitL ds ls) ds := by
  unfold unitL
  split
  · rw [h.1]; exact ⟨h.zer, zer_sub h.1⟩
  · split
    · exact andL_set h hc (lastO_lt _ _ _ (by omega))
    · exact ⟨h, SubD.refl _⟩
def clK (cls : List (List Lt)) (ds : List Int) : Nat → List Int
  | 0 => ds
  | k + 1 => unitL (clK cls ds k) (cl0 cls k)
def stC (cs : List Con) (cls : List (List Lt)) (ds : List Int) : List Int := clK cls (propL cs ds) cls.length
def okCls (cls : List (List Lt)) (n : Int) : Bool := decide (cls.length ≤ 200) && !anyB (fun i => !okCl (cl0 cls i) n) cls.length
theorem okCls_at {cls : List (List Lt)} {n : Int} (h : okCls cls n = true) {i : Nat} (hi : i < cls.length) : okCl (cl0 cls i) n = true := by
  simp only [okCls, Bool.and_eq_true, Bool.not_eq_true'] at h
  simpa using anyB_false.1 h.2 i hi
theorem okCls_nil (n : Int) : okCls [] n = true := by simp [okCls, anyB]
theorem clK_good {ds : List Int} (h : GoodD cs n ds) {cls : List (List Lt)} (hc : ∀ i, i < cls.length → okCl (cl0 cls i) n = true) : ∀ k, k ≤ cls.length → GoodD cs n (clK cls ds k) ∧ SubD (clK cls ds k) ds
  | 0, _ => ⟨h, SubD.refl _⟩
  | k + 1, hk => by
    obtain ⟨h1, h2⟩ := clK_good h hc k (by omega)
    obtain ⟨h3, h4⟩ := unitL_good h1 (hc k (by omega))
    exact ⟨h3, h4.trans h2⟩
theorem stC_ok (h4 : n ≤ 4) {cls : List (List Lt)} (hc : ∀ i, i < cls.length → okCl (cl0 cls i) n = true) : StOK (stC cs cls) (GoodD cs n) n := by
  refine ⟨fun _ h => h.2.1, fun _ h => h.1, fun ds h => ?_, fun ds h => ?_⟩
  · have hr := propL_R h h4
    exact (clK_good hr.good hc _ (Nat.le_refl _)).2.trans hr.sub
  · exact (clK_good (propL_R h h4).good hc _ (Nat.le_refl _)).1
def cluL (cs : List Con) (cls : List (List Lt)) (ds : List Int) : List Int := fixL (stC cs cls) 300 ds
theorem fixL_cas {st : List Int → List Int} (h4 : n ≤ 4) (hst : StOK st (GoodD cs n) n) {ds : List Int} (h : GoodD cs n ds) : GoodD cs n (fixL st 300 ds) ∧ (fixL st 300 ds = zer n ∨ hasI (fixL st 300 ds) 0 = false) := by
  have hsum : sumL ds < 300 := by have := (sumL_bd ds h.2.1).2; have := h.1; omega
  obtain ⟨i, hg, hc⟩ := fixL_orbit hst 300 ds h hsum
  rcases hc with ⟨-, hy⟩ | ⟨h0, -, hy⟩
  · rw [hy]; exact ⟨h.zer, .inl rfl⟩
  · rw [hy]; exact ⟨hg, .inr h0⟩
theorem fixL_first {st : List Int → List Int} (h4 : n ≤ 4) (h0 : 0 < n) (hst : StOK st (GoodD cs n) n) {ds : List Int} (h : GoodD cs n ds) : (at0 (fixL st 300 ds) 0 == 0) = hasI (fixL st 300 ds) 0 := by
  obtain ⟨hg, hc⟩ := fixL_cas h4 hst h
  rcases hc with e | e
  · rw [e, hasI_zer h0, zer_at]; rfl
  · rw [e]
    have : at0 (fixL st 300 ds) 0 ≠ 0 := fun h2 => by
      have := hasI_iff.2 ⟨0, by rw [hg.1]; exact h0, h2⟩
      rw [e] at this; cases this
    simpa using this
theorem sub_hasI {a b : List Int} (h : SubD a b) (ha : DomL a) (hb : hasI b 0 = true) : hasI a 0 = true := by
  obtain ⟨i, hi, e⟩ := hasI_iff.1 hb
  have hi' : i < a.length := by rw [h.1]; exact hi
  refine hasI_iff.2 ⟨i, hi', ?_⟩
  refine dom_ext (ha i hi') (by omega) fun v hv => ?_
  rw [hasB_zero]
  cases hh : hasB (at0 a i) v with
  | false => rfl
  | true =>
    have := h.2 i hi' v hv hh
    rw [e, hasB_zero] at this
    cases this
/-- A round of the reference: it looks at what a round leaves. -/
theorem ref_empty {st : List Int → List Int} (hst : StOK st (GoodD cs n) n) {ds : List Int} (h : GoodD cs n ds) {k : Nat} (hs : sumL ds < k + 1) (he : hasI (st ds) 0 = true) : fixL st (k + 1) ds = zer n := by
  rw [fixL]
  cases h0 : hasI ds 0 with
  | true => rw [if_pos rfl, h.1]
  | false =>
    rw [if_neg (by simp)]
    have hne : st ds ≠ ds := fun e => by rw [e, h0] at he; cases he
    rw [if_neg hne]
    have hlt := SubD.sum (hst.dom _ (hst.stay ds h)) h.2.1 (hst.sub ds h) hne
    have hnn := (sumL_bd (st ds) (hst.dom _ (hst.stay ds h))).1
    obtain ⟨j, rfl⟩ : ∃ j, k = j + 1 := ⟨k - 1, by omega⟩
    rw [fixL, if_pos he, (hst.stay ds h).1]
theorem ref_full {st : List Int → List Int} {ds : List Int} {k : Nat} (he : hasI (st ds) 0 = false) (hne : st ds = ds) : fixL st (k + 1) ds = ds := by
  rw [hne] at he
  rw [fixL, he, if_neg (by simp), if_pos hne]
theorem ref_on {st : List Int → List Int} (hst : StOK st (GoodD cs n) n) {ds : List Int} (h : GoodD cs n ds) {k : Nat} (hs : sumL ds < k + 1) (he : hasI (st ds) 0 = false) (hne : st ds ≠ ds) : fixL st (k + 1) ds = fixL st k (st ds) ∧ sumL (st ds) < k := by
  have h0 : hasI ds 0 = false := by
    cases h0 : hasI ds 0 with
    | false => rfl
    | true => rw [sub_hasI (hst.sub ds h) (hst.dom _ (hst.stay ds h)) h0] at he; cases he
  have hlt := SubD.sum (hst.dom _ (hst.stay ds h)) h.2.1 (hst.sub ds h) hne
  rw [fixL, h0, if_neg (by simp), if_neg hne]
  exact ⟨rfl, by omega⟩
theorem cluL_nil (h4 : n ≤ 4) (h0 : 0 < n) {ds : List Int} (h : GoodD cs n ds) : cluL cs [] ds = propL cs ds := by
  have hst : StOK (stC cs []) (GoodD cs n) n := stC_ok h4 (fun i hi => absurd hi (by simp))
  have hsum : sumL ds < 299 + 1 := by have := (sumL_bd ds h.2.1).2; have := h.1; omega
  have hr := propL_R h h4
  have e1 : stC cs [] ds = propL cs ds := rfl
  have e2 : stC cs [] (propL cs ds) = propL cs ds := propL_idem h h4 h0
  unfold cluL
  rw [show (300 : Nat) = 299 + 1 from rfl]
  cases he : hasI (propL cs ds) 0 with
  | true => rw [ref_empty hst h hsum (by rw [e1]; exact he), propL_empty h h4 he]
  | false =>
    by_cases hne : propL cs ds = ds
    · rw [ref_full (by rw [e1]; exact he) (by rw [e1]; exact hne)]; exact hne.symm
    · obtain ⟨h1, h2⟩ := ref_on hst h hsum (by rw [e1]; exact he) (by rw [e1]; exact hne)
      rw [h1, e1]
      exact ref_full (k := 298) (by rw [e2]; exact he) e2
end
end Go.Proofs.YtgpbmggfpbebmaaGreat
