/- Propagation keeps what is between; probing a fixed variable: plain Lean. -/
import Derived.Test.YtalgilgfoekioaaGreatDoorQ11
import Derived.Test.YtalgilgfoekioaaGreatDoorSolW
import Derived.Test.YtalgilgfoekioaaGreatDoorBbP
namespace Go.Proofs.YtalgilgfoekioaaGreatDoor
open Go.RowKit

theorem has_one9 {d : Int} (h0 : 0 ≤ d) (h1 : d ≤ 63) (hd : d ≠ 0) : ∃ v : Nat, v < 6 ∧ hasB d v = true := by
  have key : ∀ n : Fin 64, 0 < n.val → ∃ v : Fin 6, hasB (n.val : Int) v.val = true := by decide
  obtain ⟨v, hv⟩ := key ⟨d.toNat, by omega⟩ (by show 0 < d.toNat; omega)
  refine ⟨v.val, v.isLt, ?_⟩
  rw [show d = ((d.toNat : Nat) : Int) by omega]
  exact hv
section
variable {cs : List Con} {n : Nat}
theorem stepK_mono {a b : List Int} (ha : GoodD cs n a) (hb : GoodD cs n b) (h : SubD a b) : ∀ k, k ≤ cs.length → SubD (stepK cs a k) (stepK cs b k)
  | 0, _ => h
  | k + 1, hk => by
    have ih := stepK_mono ha hb h k (by omega)
    have he := (ha.stepK k (by omega)).1
    exact filtP_mono (by rw [he.1]; exact vCon_var (he.2.2 k (by omega))) ih
theorem fix_keeps {p : List Int} (hp : GoodD cs n p) (hst : stepL cs p = p) (h0 : hasI p 0 = false) : ∀ (k : Nat) (b : List Int), GoodD cs n b → SubD p b → SubD p (fixL (stepL cs) k b)
  | 0, _, _, hs => hs
  | k + 1, b, hb, hs => by
    rw [fixL]
    cases hz : hasI b 0 with
    | true =>
      exfalso
      obtain ⟨i, hi, he⟩ := hasI_iff.1 hz
      have hil : i < p.length := by rw [hs.len]; exact hi
      have hne : at0 p i ≠ 0 := fun e => by
        have := hasI_iff.2 ⟨i, hil, e⟩
        rw [h0] at this; cases this
      obtain ⟨b0, b1⟩ := hp.2.1 i hil
      obtain ⟨v, v6, hv⟩ := has_one9 b0 b1 hne
      have := hs.sub i hil v v6 hv
      rw [he, hasB_zero] at this; cases this
    | false =>
      rw [if_neg (by simp)]
      by_cases he : stepL cs b = b
      · rw [if_pos he]; exact hs
      · rw [if_neg he]
        refine fix_keeps hp hst h0 k (stepL cs b) ((stepOK cs n).stay b hb) ?_
        have := stepK_mono hp hb hs cs.length (Nat.le_refl _)
        rw [show stepK cs p cs.length = p from hst] at this
        exact this
/-- What propagation leaves of a part of the domains is a part of what it leaves. -/
theorem propL_keeps {a b : List Int} (ha : GoodD cs n a) (hb : GoodD cs n b) (h4 : n ≤ 4) (h : SubD (propL cs a) b) : SubD (propL cs a) (propL cs b) := by
  have hR := propL_R ha h4
  rcases hR.cas with hz | ⟨h0, hst⟩
  · rw [hz]; exact zer_sub (propL_R hb h4).good.1
  · exact fix_keeps hR.good hst h0 300 b hb h
theorem propL_mono {a b : List Int} (ha : GoodD cs n a) (hb : GoodD cs n b) (h4 : n ≤ 4) (h : SubD a b) : SubD (propL cs a) (propL cs b) := propL_keeps ha hb h4 ((propL_R ha h4).sub.trans h)
theorem propL_between {a e : List Int} (ha : GoodD cs n a) (he : GoodD cs n e) (h4 : n ≤ 4) (h1 : SubD (propL cs a) e) (h2 : SubD e a) : propL cs e = propL cs a :=
  SubD.antisymm (propL_R he h4).good.2.1 (propL_R ha h4).good.2.1 (propL_mono he ha h4 h2) (propL_keeps ha he h4 h1)
/-- Probing a fixed variable is propagation. -/
theorem probL_fixed {ds : List Int} (h : GoodD cs n ds) (h4 : n ≤ 4) {u : Nat} (hu : u < n) {a : Nat} (h6 : a < 6) (hd : domL (at0 (propL cs ds) u) = [(a : Int)]) : probL cs ds u a = propL cs ds := by
  have hR := propL_R h h4
  have hul : u < ds.length := by rw [h.1]; exact hu
  obtain ⟨d0, d1⟩ := h.2.1 u hul
  have hon : ∀ v, v < 6 → hasB (at0 (propL cs ds) u) v = true → v = a := fun v hv hh => by
    have := (domL_in _ v).2 ⟨hv, hh⟩
    rw [hd] at this
    simp at this
    omega
  have hes : GoodD cs n (ds.set u (andV (at0 ds u) a)) := h.set u (andV_bd d0 d1 h6)
  have hsub : SubD (ds.set u (andV (at0 ds u) a)) ds := sub_set hul (fun v hv hh => by rw [andV_has d0 d1 h6 hv, Bool.and_eq_true] at hh; exact hh.1)
  unfold probL probD
  refine propL_between h hes h4 ⟨by rw [List.length_set]; exact hR.sub.len, fun i hi v hv hh => ?_⟩ hsub
  have hb := hR.sub.sub i hi v hv hh
  by_cases hiu : i = u
  · subst hiu
    rw [show at0 (ds.set i (andV (at0 ds i) a)) i = andV (at0 ds i) a by simp [at0, hul], andV_has d0 d1 h6 hv, hb, hon v hv hh]
    simp
  · rw [show at0 (ds.set u (andV (at0 ds u) a)) i = at0 ds i by simp [at0, List.getD_eq_getElem?_getD, List.getElem?_set_ne (Ne.symm hiu)]]
    exact hb
end
end Go.Proofs.YtalgilgfoekioaaGreatDoor
/- Shaving: stronger than propagation, keeps the solutions, done once is done twice. Plain Lean. -/
namespace Go.Proofs.YtalgilgfoekioaaGreatDoor
open Go.RowKit

section
variable {cs : List Con} {n : Nat}
/-- What shaving ends in. -/
theorem shave_R {ds : List Int} (h : GoodD cs n ds) (h4 : n ≤ 4) : GoodD cs n (shaveL cs ds) ∧ SubD (shaveL cs ds) ds ∧ (shaveL cs ds = zer n ∨ (hasI (shaveL cs ds) 0 = false ∧ shvP cs (shaveL cs ds) = shaveL cs ds)) := by
  have hst := shvP_ok (cs := cs) (n := n) h4
  have key : ∀ (k : Nat) (b : List Int), GoodD cs n b → sumL b < k → GoodD cs n (fixL (shvP cs) k b) ∧ SubD (fixL (shvP cs) k b) b ∧ (fixL (shvP cs) k b = zer n ∨ (hasI (fixL (shvP cs) k b) 0 = false ∧ shvP cs (fixL (shvP cs) k b) = fixL (shvP cs) k b)) := by
    intro k
    induction k with
    | zero => intro b hb hs; have := (sumL_bd b hb.2.1).1; omega
    | succ k ih =>
      intro b hb hs
      rw [fixL]
      cases hz : hasI b 0 with
      | true =>
        rw [if_pos rfl, hb.1]
        exact ⟨hb.zer, zer_sub hb.1, .inl rfl⟩
      | false =>
        rw [if_neg (by simp)]
        by_cases he : shvP cs b = b
        · rw [if_pos he]; exact ⟨hb, SubD.refl _, .inr ⟨hz, he⟩⟩
        · rw [if_neg he]
          have := SubD.sum (hst.dom _ (hst.stay b hb)) (hst.dom b hb) (hst.sub b hb) he
          obtain ⟨q1, q2, q3⟩ := ih (shvP cs b) (hst.stay b hb) (by omega)
          exact ⟨q1, q2.trans (hst.sub b hb), q3⟩
  refine key 300 ds h ?_
  have := (sumL_bd ds h.2.1).2
  have := h.1
  omega
theorem shvP_fix {d : List Int} (h : GoodD cs n d) (h4 : n ≤ 4) (he : shvP cs d = d) : propL cs d = d := by
  have hR := propL_R h h4
  refine SubD.antisymm hR.good.2.1 h.2.1 hR.sub ?_
  have := (shvL_ok hR.good).2
  rw [show shvL cs (propL cs d) = d from he] at this
  exact this
/-- Shaved domains are contained in propagated ones. -/
theorem shave_prop {ds : List Int} (h : GoodD cs n ds) (h4 : n ≤ 4) : SubD (shaveL cs ds) (propL cs ds) := by
  obtain ⟨hg, hs, hc⟩ := shave_R h h4
  rcases hc with hz | ⟨-, he⟩
  · rw [hz]; exact zer_sub (propL_R h h4).good.1
  · rw [← shvP_fix hg h4 he]
    have := propL_mono hg h h4 hs
    rw [shvP_fix hg h4 he]
    rw [shvP_fix hg h4 he] at this
    exact this
theorem shave_twice {ds : List Int} (h : GoodD cs n ds) (h4 : n ≤ 4) (h0 : 0 < n) : shaveL cs (shaveL cs ds) = shaveL cs ds := by
  obtain ⟨hg, hs, hc⟩ := shave_R h h4
  rcases hc with hz | ⟨h1, he⟩
  · rw [hz]
    show fixL (shvP cs) (299 + 1) (zer n) = zer n
    rw [fixL, if_pos (hasI_zer h0), zer_len]
  · show fixL (shvP cs) (299 + 1) (shaveL cs ds) = shaveL cs ds
    rw [fixL, h1, if_neg (by simp), if_pos he]
/-- A list in the domains stays in them if one value that it does not take is taken away. -/
theorem tups_del {ds x : List Int} {v a : Nat} (hx : x ∈ tups ds) (hd : DomL ds) (h6 : a < 6) (hne : at0 x v ≠ a) : x ∈ tups (ds.set v (delV (at0 ds v) a)) := by
  obtain ⟨h1, h2⟩ := (tups_in _ _).1 hx
  refine (tups_in _ _).2 ⟨by rw [List.length_set]; exact h1, fun i hi => ?_⟩
  rw [List.length_set] at hi
  obtain ⟨u, u6, hu, hb⟩ := h2 i hi
  refine ⟨u, u6, hu, ?_⟩
  by_cases hiv : i = v
  · subst hiv
    obtain ⟨d0, d1⟩ := hd i hi
    rw [show at0 (ds.set i (delV (at0 ds i) a)) i = delV (at0 ds i) a by simp [at0, hi], delV_has d0 d1 h6 u6, hb]
    have : u ≠ a := by intro e; subst e; exact hne hu
    simpa using this
  · rw [show at0 (ds.set v (delV (at0 ds v) a)) i = at0 ds i by simp [at0, List.getD_eq_getElem?_getD, List.getElem?_set_ne (Ne.symm hiv)]]
    exact hb
theorem tups_probD {ds x : List Int} {v : Nat} (hx : x ∈ tups ds) (hd : DomL ds) (hv : v < ds.length) {a : Nat} (h6 : a < 6) (ha : at0 x v = a) : x ∈ tups (probD ds v a) := by
  obtain ⟨h1, h2⟩ := (tups_in _ _).1 hx
  unfold probD
  refine (tups_in _ _).2 ⟨by rw [List.length_set]; exact h1, fun i hi => ?_⟩
  rw [List.length_set] at hi
  obtain ⟨u, u6, hu, hb⟩ := h2 i hi
  refine ⟨u, u6, hu, ?_⟩
  by_cases hiv : i = v
  · subst hiv
    obtain ⟨d0, d1⟩ := hd i hi
    rw [show at0 (ds.set i (andV (at0 ds i) a)) i = andV (at0 ds i) a by simp [at0, hi], andV_has d0 d1 h6 u6, hb]
    have : u = a := by rw [hu] at ha; omega
    simpa using this
  · rw [show at0 (ds.set v (andV (at0 ds v) a)) i = at0 ds i by simp [at0, List.getD_eq_getElem?_getD, List.getElem?_set_ne (Ne.symm hiv)]]
    exact hb
theorem shvI_keeps {x : List Int} (ho : okAll cs x = true) {ds : List Int} (h : GoodD cs n ds) {v : Nat} (hv : v < n) (e : Int) : ∀ k, k ≤ (domL e).length → x ∈ tups ds → x ∈ tups (shvI cs v (domL e) ds k)
  | 0, _, hx => hx
  | k + 1, hk, hx => by
    have ih := shvI_keeps ho h hv e k (by omega) hx
    obtain ⟨hg, -⟩ := shvI_ok h hv e k (by omega)
    rw [shvI]
    split
    · rename_i hf
      obtain ⟨a, ha, ha6⟩ := domL_val e (k := k) (by omega)
      rw [ha, Int.toNat_natCast] at hf ⊢
      refine tups_del ih hg.2.1 ha6 fun hxa => ?_
      have hp := tups_probD ih hg.2.1 (by rw [hg.1]; exact hv) ha6 hxa
      have := fixL_keeps ho 300 _ (hg.prob hv ha6) hp
      rw [show fixL (stepL cs) 300 (probD (shvI cs v (domL e) ds k) v a) = probL cs (shvI cs v (domL e) ds k) v a from rfl, tups_empty hf] at this
      cases this
    · exact ih
theorem shvK_keeps {x : List Int} (ho : okAll cs x = true) {ds : List Int} (h : GoodD cs n ds) (hx : x ∈ tups ds) : ∀ k, k ≤ n → x ∈ tups (shvK cs ds k)
  | 0, _ => hx
  | k + 1, hk => shvI_keeps ho (shvK_ok h k (by omega)).1 (by omega) _ _ (Nat.le_refl _) (shvK_keeps ho h hx k (by omega))
theorem shvP_keeps {x : List Int} (ho : okAll cs x = true) {ds : List Int} (h : GoodD cs n ds) (h4 : n ≤ 4) (hx : x ∈ tups ds) : x ∈ tups (shvP cs ds) := by
  have hR := propL_R h h4
  exact shvK_keeps ho hR.good (fixL_keeps ho 300 ds h hx) _ (by rw [hR.good.1]; exact Nat.le_refl _)
/-- Shaving keeps every solution. -/
theorem shave_keeps {x : List Int} (ho : okAll cs x = true) {ds : List Int} (h : GoodD cs n ds) (h4 : n ≤ 4) (hx : x ∈ tups ds) : x ∈ tups (shaveL cs ds) := by
  have key : ∀ (k : Nat) (b : List Int), GoodD cs n b → x ∈ tups b → x ∈ tups (fixL (shvP cs) k b) := by
    intro k
    induction k with
    | zero => intro b _ hb; exact hb
    | succ k ih =>
      intro b hb hxb
      rw [fixL]
      cases hz : hasI b 0 with
      | true => rw [tups_empty hz] at hxb; cases hxb
      | false =>
        rw [if_neg (by simp)]
        by_cases he : shvP cs b = b
        · rw [if_pos he]; exact hxb
        · rw [if_neg he]; exact ih _ ((shvP_ok h4).stay b hb) (shvP_keeps ho hb h4 hxb)
  exact key 300 ds h hx
end
end Go.Proofs.YtalgilgfoekioaaGreatDoor
/- Singleton consistency and shaving. Plain Lean. -/
namespace Go.Proofs.YtalgilgfoekioaaGreatDoor
open Go.RowKit

section
variable {cs : List Con} {n : Nat}
theorem singB_at {ds : List Int} (h : singB cs ds = true) : hasI ds 0 = false ∧ ∀ v, v < ds.length → ∀ k, k < (domL (at0 ds v)).length → hasI (probL cs ds v (at0 (domL (at0 ds v)) k).toNat) 0 = false := by
  simp only [singB, Bool.and_eq_true, Bool.not_eq_true'] at h
  refine ⟨h.1, fun v hv k hk => ?_⟩
  have h1 := anyB_false.1 h.2 v hv
  exact anyB_false.1 h1 k hk
theorem singB_of {ds : List Int} (h0 : hasI ds 0 = false) (h : ∀ v, v < ds.length → ∀ k, k < (domL (at0 ds v)).length → hasI (probL cs ds v (at0 (domL (at0 ds v)) k).toNat) 0 = false) : singB cs ds = true := by
  simp only [singB, Bool.and_eq_true, Bool.not_eq_true']
  exact ⟨h0, anyB_false.2 fun v hv => anyB_false.2 fun k hk => h v hv k hk⟩
theorem shvI_sub {ds : List Int} (h : GoodD cs n ds) {v : Nat} (hv : v < n) (e : Int) (k : Nat) : ∀ m, k + m ≤ (domL e).length → SubD (shvI cs v (domL e) ds (k + m)) (shvI cs v (domL e) ds k)
  | 0, _ => SubD.refl _
  | m + 1, hm => by
    have ih := shvI_sub h hv e k m (by omega)
    refine SubD.trans ?_ ih
    obtain ⟨h1, -⟩ := shvI_ok h hv e (k + m) (by omega)
    rw [← Nat.add_assoc, shvI]
    split
    · obtain ⟨a, ha, ha6⟩ := domL_val e (k := k + m) (by omega)
      rw [ha, Int.toNat_natCast]
      have hb := h1.2.1 v (by rw [h1.1]; exact hv)
      refine sub_set (by rw [h1.1]; exact hv) (fun u hu hh => ?_)
      rw [delV_has hb.1 hb.2 ha6 hu, Bool.and_eq_true] at hh
      exact hh.1
    · exact SubD.refl _
theorem shvK_sub {ds : List Int} (h : GoodD cs n ds) (k : Nat) : ∀ m, k + m ≤ n → SubD (shvK cs ds (k + m)) (shvK cs ds k)
  | 0, _ => SubD.refl _
  | m + 1, hm => by
    have ih := shvK_sub h k m (by omega)
    obtain ⟨h1, -⟩ := shvK_ok h (k + m) (by omega)
    exact (shvI_ok h1 (v := k + m) (by omega) _ _ (Nat.le_refl _)).2.trans ih
/-- Domains that shaving leaves as they are: no probe of a value fails. -/
theorem sing_of_fix {d : List Int} (h : GoodD cs n d) (h4 : n ≤ 4) (h0 : hasI d 0 = false) (he : shvP cs d = d) : singB cs d = true := by
  have hp := shvP_fix h h4 he
  have hs : shvK cs d n = d := by
    have e : shvL cs (propL cs d) = d := he
    rw [hp] at e
    unfold shvL at e
    rw [h.1] at e
    exact e
  have hK : ∀ v, v ≤ n → shvK cs d v = d := fun v hv => by
    obtain ⟨g1, g2⟩ := shvK_ok h v hv
    have := shvK_sub h v (n - v) (by omega)
    rw [show v + (n - v) = n by omega, hs] at this
    exact SubD.antisymm g1.2.1 h.2.1 g2 this
  refine singB_of h0 fun v hv k hk => ?_
  rw [h.1] at hv
  have hlast : shvI cs v (domL (at0 d v)) d (domL (at0 d v)).length = d := by
    have := hK (v + 1) (by omega)
    rw [shvK, hK v (by omega)] at this
    exact this
  have hI : ∀ j, j ≤ (domL (at0 d v)).length → shvI cs v (domL (at0 d v)) d j = d := fun j hj => by
    obtain ⟨g1, g2⟩ := shvI_ok h hv (at0 d v) j hj
    have := shvI_sub h hv (at0 d v) j ((domL (at0 d v)).length - j) (by omega)
    rw [show j + ((domL (at0 d v)).length - j) = (domL (at0 d v)).length by omega, hlast] at this
    exact SubD.antisymm g1.2.1 h.2.1 g2 this
  cases hf : hasI (probL cs d v (at0 (domL (at0 d v)) k).toNat) 0 with
  | false => rfl
  | true =>
    exfalso
    have h1 := hI (k + 1) (by omega)
    obtain ⟨a, ha, ha6⟩ := domL_val (at0 d v) hk
    have hb := domL_at (at0 d v) hk
    rw [ha, Int.toNat_natCast] at hf hb
    rw [shvI, hI k (by omega), ha, Int.toNat_natCast, if_pos hf] at h1
    have hvl : v < d.length := by rw [h.1]; exact hv
    obtain ⟨d0, d1⟩ := h.2.1 v hvl
    have h2 : hasB (at0 (d.set v (delV (at0 d v) a)) v) a = true := by rw [h1]; exact hb
    rw [show at0 (d.set v (delV (at0 d v) a)) v = delV (at0 d v) a by simp [at0, hvl], delV_has d0 d1 ha6 ha6] at h2
    simp at h2
/-- Domains of which no probe fails are left by propagation, and by shaving. -/
theorem fix_of_sing {ds : List Int} (h : GoodD cs n ds) (h4 : n ≤ 4) (hn0 : 0 < n) (hs : singB cs ds = true) : propL cs ds = ds ∧ stepL cs ds = ds ∧ shaveL cs ds = ds := by
  obtain ⟨h0, hk⟩ := singB_at hs
  have hR := propL_R h h4
  have hp : propL cs ds = ds := by
    refine SubD.antisymm hR.good.2.1 h.2.1 hR.sub ⟨hR.sub.len.symm, fun v hv a ha hb => ?_⟩
    have hm : (a : Int) ∈ domL (at0 ds v) := (domL_in _ a).2 ⟨ha, hb⟩
    obtain ⟨k, hkl, hke⟩ := List.mem_iff_getElem.1 hm
    have hka : at0 (domL (at0 ds v)) k = a := (show (domL (at0 ds v)).getD k 0 = a from (getD_lt _ _ hkl).trans hke)
    have hnf := hk v hv k hkl
    rw [hka, Int.toNat_natCast] at hnf
    have hvn : v < n := by rw [← h.1]; exact hv
    have hgp := h.prob hvn ha
    have hRp := propL_R hgp h4
    obtain ⟨d0, d1⟩ := h.2.1 v hv
    have hsub : SubD (probD ds v a) ds := sub_set hv (fun u hu hh => by rw [andV_has d0 d1 ha hu, Bool.and_eq_true] at hh; exact hh.1)
    have hvr : v < (probL cs ds v a).length := by rw [show (probL cs ds v a).length = n from hRp.good.1]; exact hvn
    have hne : at0 (probL cs ds v a) v ≠ 0 := fun e => by
      have := hasI_iff.2 ⟨v, hvr, e⟩
      rw [hnf] at this; cases this
    obtain ⟨r0, r1⟩ := hRp.good.2.1 v hvr
    obtain ⟨u, u6, hu⟩ := has_one9 r0 r1 hne
    have hu2 := hRp.sub.sub v hvr u u6 hu
    unfold probD at hu2
    rw [show at0 (ds.set v (andV (at0 ds v) a)) v = andV (at0 ds v) a by simp [at0, hv], andV_has d0 d1 ha u6, Bool.and_eq_true, beq_iff_eq] at hu2
    obtain rfl := hu2.2
    exact (propL_mono hgp h h4 hsub).sub v hvr u u6 hu
  have hstep : stepL cs ds = ds := by
    rcases hR.cas with hz | ⟨-, hst⟩
    · rw [hp] at hz
      rw [hz, hasI_zer hn0] at h0
      cases h0
    · rw [hp] at hst; exact hst
  have hI : ∀ v, v < n → ∀ k, k ≤ (domL (at0 ds v)).length → shvI cs v (domL (at0 ds v)) ds k = ds := by
    intro v hv k
    induction k with
    | zero => intro _; rfl
    | succ k ih =>
      intro hkl
      rw [shvI, ih (by omega), hk v (by rw [h.1]; exact hv) k (by omega)]
      simp
  have hK : ∀ k, k ≤ n → shvK cs ds k = ds := by
    intro k
    induction k with
    | zero => intro _; rfl
    | succ k ih =>
      intro hkn
      rw [shvK, ih (by omega)]
      exact hI k (by omega) _ (Nat.le_refl _)
  refine ⟨hp, hstep, ?_⟩
  show fixL (shvP cs) (299 + 1) ds = ds
  have he : shvP cs ds = ds := by
    unfold shvP shvL
    rw [hp, h.1]
    exact hK n (Nat.le_refl _)
  rw [fixL, h0, if_neg (by simp), if_pos he]
end
end Go.Proofs.YtalgilgfoekioaaGreatDoor
/- Shaving keeps all that the solutions take: plain Lean. -/
namespace Go.Proofs.YtalgilgfoekioaaGreatDoor
open Go.RowKit

theorem bbK_in {rs : List (List Int)} {n : Nat} {b : List Int} (hb : b.length = n) (hdb : DomL b) (h : ∀ i, i < rs.length → rw0 rs i ∈ tups b) : ∀ k, k ≤ rs.length → SubD (bbK rs n k) b
  | 0, _ => zer_sub hb
  | k + 1, hk => by
    have ih := bbK_in hb hdb h k (by omega)
    obtain ⟨q1, q2⟩ := (tups_in _ _).1 (h k (by omega))
    refine ⟨by rw [bbK, orT_len]; exact ih.len, fun u hu v hv hh => ?_⟩
    rw [bbK, orT_len] at hu
    rw [bbK, orT_at _ hu] at hh
    obtain ⟨a, a6, ha, hab⟩ := q2 u (by rw [← ih.len]; exact hu)
    have hg : DomL (bbK rs n k) := (bbK_good (rs := rs) (n := n) (fun i hi => by obtain ⟨p1, p2⟩ := tups_val (h i hi); exact ⟨by rw [p1, hb], p2⟩) k (by omega)).2
    obtain ⟨g0, g1⟩ := hg u hu
    rw [ha, orV_has g0 g1 a6 hv, Bool.or_eq_true] at hh
    rcases hh with hh | hh
    · exact ih.sub u hu v hv hh
    · simp at hh; subst hh; exact hab
/-- The backbone lies in the shaved domains. -/
theorem bb_shave {cs : List Con} {n : Nat} {ds : List Int} (h : GoodD cs n ds) (h4 : n ≤ 4) : SubD (bbL cs ds) (shaveL cs ds) := by
  obtain ⟨hg, -, -⟩ := shave_R h h4
  unfold bbL
  rw [h.1]
  refine bbK_in hg.1 hg.2.1 (fun i hi => ?_) _ (Nat.le_refl _)
  have hm : rw0 (solL cs ds) i ∈ solL cs ds := by rw [rw0, getD_lt _ _ hi]; exact List.getElem_mem hi
  unfold solL at hm
  obtain ⟨m1, m2⟩ := List.mem_filter.1 hm
  exact shave_keeps m2 h h4 m1
end Go.Proofs.YtalgilgfoekioaaGreatDoor
