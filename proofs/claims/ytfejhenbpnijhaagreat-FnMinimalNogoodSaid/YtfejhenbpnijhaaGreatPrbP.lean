/- Propagation keeps what is between; probing a fixed variable: plain Lean. -/
import Derived.Test.YtfejhenbpnijhaaGreatPrbZ
namespace Go.Proofs.YtfejhenbpnijhaaGreat
open Go.RowKit

theorem has_one9 {d : Int} (h0 : 0 ≤ d) (h1 : d ≤ 63) (hd : d ≠ 0) : ∃ v : Nat, v < 6 ∧ hasB d v = true := by
  have key : ∀ n : Fin 64, 0 < n.val → ∃ v : Fin 6, hasB (n.val : Int) v.val = true := by decide
  obtain ⟨v, hv⟩ := key ⟨d.toNat, by omega⟩ (by show 0 < d.toNat; omega)
  refine ⟨v.val, v.isLt, ?_⟩
  rw [show d = ((d.toNat : Nat) : Int) by omega]
  exact hv
section
variable {cs : List Con} {n : Nat}
theorem stepK_mono {a b : List Int} (ha : GoodD cs n a) (hb : GoodD cs n b) (h : SubD a b) : ∀ k, k ≤ cs.length → SubD (stepK cs a k) (stepK cs b k)
  | 0, _ => h
  | k + 1, hk => by
    have ih := stepK_mono ha hb h k (by omega)
    have he := (ha.stepK k (by omega)).1
    exact filtP_mono (by rw [he.1]; exact vCon_var (he.2.2 k (by omega))) ih
theorem fix_keeps {p : List Int} (hp : GoodD cs n p) (hst : stepL cs p = p) (h0 : hasI p 0 = false) : ∀ (k : Nat) (b : List Int), GoodD cs n b → SubD p b → SubD p (fixL (stepL cs) k b)
  | 0, _, _, hs => hs
  | k + 1, b, hb, hs => by
    rw [fixL]
    cases hz : hasI b 0 with
    | true =>
      exfalso
      obtain ⟨i, hi, he⟩ := hasI_iff.1 hz
      have hil : i < p.length := by rw [hs.len]; exact hi
      have hne : at0 p i ≠ 0 := fun e => by
        have := hasI_iff.2 ⟨i, hil, e⟩
        rw [h0] at this; cases this
      obtain ⟨b0, b1⟩ := hp.2.1 i hil
      obtain ⟨v, v6, hv⟩ := has_one9 b0 b1 hne
      have := hs.sub i hil v v6 hv
      rw [he, hasB_zero] at this; cases this
    | false =>
      rw [if_neg (by simp)]
      by_cases he : stepL cs b = b
      · rw [if_pos he]; exact hs
      · rw [if_neg he]
        refine fix_keeps hp hst h0 k (stepL cs b) ((stepOK cs n).stay b hb) ?_
        have := stepK_mono hp hb hs cs.length (Nat.le_refl _)
        rw [show stepK cs p cs.length = p from hst] at this
        exact this
/-- What propagation leaves of a part of the domains is a part of what it leaves. -/
theorem propL_keeps {a b : List Int} (ha : GoodD cs n a) (hb : GoodD cs n b) (h4 : n ≤ 4) (h : SubD (propL cs a) b) : SubD (propL cs a) (propL cs b) := by
  have hR := propL_R ha h4
  rcases hR.cas with hz | ⟨h0, hst⟩
  · rw [hz]; exact zer_sub (propL_R hb h4).good.1
  · exact fix_keeps hR.good hst h0 300 b hb h
theorem propL_mono {a b : List Int} (ha : GoodD cs n a) (hb : GoodD cs n b) (h4 : n ≤ 4) (h : SubD a b) : SubD (propL cs a) (propL cs b) := propL_keeps ha hb h4 ((propL_R ha h4).sub.trans h)
theorem propL_between {a e : List Int} (ha : GoodD cs n a) (he : GoodD cs n e) (h4 : n ≤ 4) (h1 : SubD (propL cs a) e) (h2 : SubD e a) : propL cs e = propL cs a :=
  SubD.antisymm (propL_R he h4).good.2.1 (propL_R ha h4).good.2.1 (propL_mono he ha h4 h2) (propL_keeps ha he h4 h1)
/-- Probing a fixed variable is propagation. -/
theorem probL_fixed {ds : List Int} (h : GoodD cs n ds) (h4 : n ≤ 4) {u : Nat} (hu : u < n) {a : Nat} (h6 : a < 6) (hd : domL (at0 (propL cs ds) u) = [(a : Int)]) : probL cs ds u a = propL cs ds := by
  have hR := propL_R h h4
  have hul : u < ds.length := by rw [h.1]; exact hu
  obtain ⟨d0, d1⟩ := h.2.1 u hul
  have hon : ∀ v, v < 6 → hasB (at0 (propL cs ds) u) v = true → v = a := fun v hv hh => by
    have := (domL_in _ v).2 ⟨hv, hh⟩
    rw [hd] at this
    simp at this
    omega
  have hes : GoodD cs n (ds.set u (andV (at0 ds u) a)) := h.set u (andV_bd d0 d1 h6)
  have hsub : SubD (ds.set u (andV (at0 ds u) a)) ds := sub_set hul (fun v hv hh => by rw [andV_has d0 d1 h6 hv, Bool.and_eq_true] at hh; exact hh.1)
  unfold probL probD
  refine propL_between h hes h4 ⟨by rw [List.length_set]; exact hR.sub.len, fun i hi v hv hh => ?_⟩ hsub
  have hb := hR.sub.sub i hi v hv hh
  by_cases hiu : i = u
  · subst hiu
    rw [show at0 (ds.set i (andV (at0 ds i) a)) i = andV (at0 ds i) a by simp [at0, hul], andV_has d0 d1 h6 hv, hb, hon v hv hh]
    simp
  · rw [show at0 (ds.set u (andV (at0 ds u) a)) i = at0 ds i by simp [at0, List.getD_eq_getElem?_getD, List.getElem?_set_ne (Ne.symm hiu)]]
    exact hb
end
end Go.Proofs.YtfejhenbpnijhaaGreat
