/- Timetable filtering is sound and idempotent: plain Lean. -/
import Derived.Test.YtjpdebgejlfeaaaDoorTtP
import Derived.Test.YtjpdebgejlfeaaaDoorUsPl
import Derived.Test.YtjpdebgejlfeaaaDoorLwsA
import Derived.ArgAppend
namespace Go.Proofs.YtjpdebgejlfeaaaDoor
open Go.RowKit

theorem low_topT {d : Nat} (h2 : d ≤ 63) {v : Nat} (hv : v < 6) (h : hasB (d : Int) v = true) : lowB d ≤ v ∧ v ≤ topB d := by
  have key : ((List.range 64).all fun i => (List.range 6).all fun v => !hasB (i : Int) v || (decide (lowB i ≤ v) && decide (v ≤ topB i))) = true := by decide +kernel
  rw [List.all_eq_true] at key
  have k1 := key d (List.mem_range.2 (by omega))
  rw [List.all_eq_true] at k1
  have k2 := k1 v (List.mem_range.2 hv)
  simp only [h, Bool.not_true, Bool.false_or, Bool.and_eq_true, decide_eq_true_eq] at k2
  exact k2
theorem us_nn {ts : List Tk} (hv : vTks ts = true) (x : List Int) (t : Nat) : ∀ k, k ≤ ts.length → 0 ≤ us ts x k t
  | 0, _ => Int.le_refl _
  | k + 1, hk => by
    have ih := us_nn hv x t k (by omega)
    have := vTks_at hv (k := k) (by omega)
    unfold us
    split <;> omega
/-- What the others must use, and what task i uses, is used. -/
theorem ttK_us {ts : List Tk} (hv : vTks ts = true) {ds x : List Int} {i t : Nat} (hx : ∀ k, k < ts.length → (lowB (at0 ds k).toNat : Int) ≤ at0 x k ∧ at0 x k ≤ (topB (at0 ds k).toNat : Int)) (hi : at0 x i ≤ (t : Int) ∧ (t : Int) < at0 x i + tkD ts i) :
    ∀ k, k ≤ ts.length → ttK ts ds i t k + (if i < k then tkM ts i else 0) ≤ us ts x k t
  | 0, _ => by simp [ttK, us]
  | k + 1, hk => by
    have ih := ttK_us hv hx hi k (by omega)
    have hm := vTks_at hv (k := k) (by omega)
    have hxk := hx k (by omega)
    rw [ttK, us]
    by_cases e : k = i
    · subst e
      rw [if_neg (by simp), if_pos (by omega), if_pos hi]
      rw [if_neg (by omega)] at ih
      omega
    · have e2 : (i < k + 1) ↔ (i < k) := by omega
      by_cases hc : k ≠ i ∧ (topB (at0 ds k).toNat : Int) ≤ t ∧ (t : Int) < (lowB (at0 ds k).toNat : Int) + tkD ts k
      · have h1 : at0 x k ≤ (t : Int) ∧ (t : Int) < at0 x k + tkD ts k := by omega
        rw [if_pos hc, if_pos h1]
        simp only [e2]
        omega
      · rw [if_neg hc]
        simp only [e2]
        have h0 : 0 ≤ (if at0 x k ≤ (t : Int) ∧ (t : Int) < at0 x k + tkD ts k then tkM ts k else 0) := by split <;> omega
        omega
/-- A solution's values are not crowded. -/
theorem cr_sol {ts : List Tk} (hv : vTks ts = true) {c : Int} {ds x : List Int} (hd : DomL ds) (hl : ds.length = ts.length) (hx : x ∈ tups ds) (ha : atmB (usL ts x) c = true) {i v : Nat} (hi : i < ts.length) (hxi : at0 x i = v) (hv6 : v < 6) : crB ts c ds i v = false := by
  obtain ⟨hxl, hxv⟩ := (tups_in ds x).1 hx
  have hb : ∀ k, k < ts.length → (lowB (at0 ds k).toNat : Int) ≤ at0 x k ∧ at0 x k ≤ (topB (at0 ds k).toNat : Int) := fun k hk => by
    obtain ⟨u, u6, e, hu⟩ := hxv k (by omega)
    have hdk := hd k (by omega)
    obtain ⟨n, hn⟩ : ∃ n : Nat, at0 ds k = n := ⟨(at0 ds k).toNat, by omega⟩
    rw [hn] at hu hdk ⊢
    rw [Int.toNat_natCast, e]
    obtain ⟨q1, q2⟩ := low_topT (d := n) (by omega) u6 hu
    constructor <;> omega
  have hti := vTks_at hv hi
  unfold crB
  rw [anyB_false]
  intro j hj
  rw [decide_eq_false_iff_not]
  have hk := ttK_us hv (ds := ds) (x := x) (i := i) (t := v + j) hb (by omega) ts.length (Nat.le_refl _)
  rw [if_pos hi] at hk
  unfold atmB at ha
  rw [Bool.not_eq_true', anyB_false, usL_len] at ha
  have h11 : v + j < 11 := by omega
  have := ha (v + j) h11
  rw [usL_at _ _ h11, decide_eq_false_iff_not] at this
  have e : ((v : Int) + (j : Int)) = ((v + j : Nat) : Int) := by omega
  rw [e]
  omega
/-- Where each value of P has a solution in P, no value of P is taken from ds. -/
theorem tt_step {ts : List Tk} (hv : vTks ts = true) {c : Int} {P ds : List Int} (hd : DomL ds) (hl : ds.length = ts.length) (hs : SubD P ds)
    (hP : ∀ i, i < ts.length → ∀ v, v < 6 → hasB (at0 P i) v = true → ∃ x, x ∈ tups P ∧ atmB (usL ts x) c = true ∧ at0 x i = v) : SubD P (ttS ts c ds) := by
  rw [ttS_eq hd]
  refine ⟨by rw [hs.len, ttR]; simp, fun u hu v h6 hb => ?_⟩
  have hu2 : u < ds.length := by rw [← hs.len]; exact hu
  have e : at0 (ttR ts c ds) u = ttE ts c ds u := by
    rw [ttR]
    unfold at0
    rw [getD_lt _ _ (by simpa using hu2)]
    simp
  rw [e, ttE, sumB_hasT _ h6, hs.sub u hu v h6 hb, Bool.true_and, Bool.not_eq_true']
  obtain ⟨x, q1, q2, q3⟩ := hP u (by omega) v h6 hb
  have hx : x ∈ tups ds := by
    obtain ⟨x1, x2⟩ := (tups_in P x).1 q1
    exact (tups_in ds x).2 ⟨by rw [x1, hs.len], fun k hk => by
      obtain ⟨w, w6, e, hw⟩ := x2 k (by rw [hs.len]; exact hk)
      exact ⟨w, w6, e, hs.sub k (by rw [hs.len]; exact hk) w w6 hw⟩⟩
  exact cr_sol hv hd hl hx q2 (by omega) q3 h6
theorem tt_fix {ts : List Tk} (hv : vTks ts = true) {c : Int} {P : List Int} (hPd : DomL P) (hz : P = zer ts.length ∨ hasI P 0 = false)
    (hP : ∀ i, i < ts.length → ∀ v, v < 6 → hasB (at0 P i) v = true → ∃ x, x ∈ tups P ∧ atmB (usL ts x) c = true ∧ at0 x i = v) : ∀ (k : Nat) (ds : List Int), DomL ds → ds.length = ts.length → SubD P ds → SubD P (fixL (ttS ts c) k ds)
  | 0, ds, _, _, h => h
  | k + 1, ds, hd, hl, h => by
    rw [fixL]
    split
    · rename_i h0
      rcases hz with hz | hz
      · rw [hz, hl]; exact SubD.refl _
      · exfalso
        obtain ⟨i, hi, e⟩ := hasI_iff.1 h0
        have hpi : i < P.length := by rw [h.len]; exact hi
        have hd2 : at0 P i ≠ 0 := fun e2 => by rw [hasI_iff.2 ⟨i, hpi, e2⟩] at hz; cases hz
        have hne : ∀ v, v < 6 → hasB (at0 P i) v = false := fun v h6 => by
          cases hh : hasB (at0 P i) v with
          | false => rfl
          | true =>
            have := h.sub i hpi v h6 hh
            rw [e] at this
            unfold hasB at this
            simp at this
        exact hd2 (dom_ext (hPd i hpi) (by omega) (fun v h6 => by rw [hne v h6]; unfold hasB; simp))
    · split
      · exact h
      · have hok := (ttS_ok ts c ts.length).stay ds ⟨hl, hd⟩
        exact tt_fix hv hPd hz hP k _ hok.2 hok.1 (tt_step hv hd hl h hP)
/-- Propagation leaves no more than the filter. -/
theorem tt_prop {ts : List Tk} (hv : vTks ts = true) {c : Int} (hc : 0 ≤ c) {P : List Int} (hR : PropR [cumC ts c] ts.length (startsL ts) P) : SubD P (fixL (ttS ts c) 300 (startsL ts)) := by
  have hsl : (startsL ts).length = ts.length := by simp [startsL]
  have hsd : DomL (startsL ts) := fun i hi => by
    rw [startsL_at ts (by omega)]
    have := vTks_at hv (k := i) (by omega)
    omega
  refine tt_fix hv hR.good.2.1 (hR.cas.imp id (fun h => h.1)) (fun i hi v h6 hb => ?_) 300 _ hsd hsl hR.sub
  have hpl : P.length = ts.length := hR.good.1
  rcases hR.cas with hz | ⟨-, hst⟩
  · rw [hz, zer_at, hasB_zero] at hb
    cases hb
  · have hf : filtL (cumC ts c) P = P := hst
    have hvar : VarOK (cumC ts c).vars P.length := by rw [hpl]; exact vCon_var (hR.good.2.2 0 (by simp))
    have hvl : (cumC ts c).vars.length = ts.length := by simp [cumC, upI]
    have hvi : (at0 (cumC ts c).vars i).toNat = i := by
      show (at0 (upI ts.length) i).toNat = i
      unfold at0
      rw [getD_lt _ _ (by simpa [upI] using hi)]
      simp [upI]
    have hb2 : hasB (at0 (filtP (satB (cumC ts c)) (cumC ts c).vars P) (at0 (cumC ts c).vars i).toNat) v = true := by
      rw [hvi]
      have e : filtP (satB (cumC ts c)) (cumC ts c).vars P = P := hf
      rw [e]; exact hb
    obtain ⟨x, x1, x2, x3⟩ := (filtP_has hvar (by rw [hvl]; exact hi) h6).1 hb2
    have hw : wordL (cumC ts c).vars P = P := by show wordL (upI ts.length) P = P; rw [← hpl]; exact wordL_upI P
    rw [hw] at x1
    have hxs : x ∈ tups (startsL ts) := by
      obtain ⟨y1, y2⟩ := (tups_in P x).1 x1
      exact (tups_in _ x).2 ⟨by rw [y1, hR.sub.len], fun k hk => by
        obtain ⟨w, w6, e, hw⟩ := y2 k (by rw [hR.sub.len]; exact hk)
        exact ⟨w, w6, e, hR.sub.sub k (by rw [hR.sub.len]; exact hk) w w6 hw⟩⟩
    have hok : okTS ts x = true := by
      obtain ⟨y1, y2⟩ := tups_val hxs
      refine okTS_iff.2 ⟨hv, by rw [y1, hsl], allR_of fun j hj => ?_⟩
      have := y2 j hj
      simp [inR]; omega
    have hxl : x.length = ts.length := by rw [(tups_val hxs).1, hsl]
    have e := cum_sat hok hc
    have hwx : wordL (cumC ts c).vars x = x := by show wordL (upI ts.length) x = x; rw [← hxl]; exact wordL_upI x
    rw [hwx, x2] at e
    exact ⟨x, x1, e.symm, x3⟩
theorem ttK_congr {ts us : List Tk} (h1 : ∀ k, tkD us k = tkD ts k) (h2 : ∀ k, tkM us k = tkM ts k) (ds : List Int) (i : Nat) (t : Int) : ∀ k, ttK us ds i t k = ttK ts ds i t k
  | 0 => rfl
  | k + 1 => by rw [ttK, ttK, ttK_congr h1 h2 ds i t k, h1, h2]
theorem ttS_congr {ts us : List Tk} (hl : us.length = ts.length) (h1 : ∀ k, tkD us k = tkD ts k) (h2 : ∀ k, tkM us k = tkM ts k) (c : Int) {ds : List Int} (hd : DomL ds) : ttS us c ds = ttS ts c ds := by
  rw [ttS_eq hd, ttS_eq hd]
  unfold ttR
  have e : ∀ i, ttE us c ds i = ttE ts c ds i := fun i => by
    unfold ttE
    congr 1
    funext v
    unfold crB
    rw [h1, h2, hl]
    congr 2
    congr 1
    funext j
    rw [ttK_congr h1 h2]
  congr 1
  funext i
  exact e i
end Go.Proofs.YtjpdebgejlfeaaaDoor
/- Timetable filtering again: what the law says; a row of tasks of the law's own. -/
namespace Go.Proofs.YtjpdebgejlfeaaaDoor
open Go.RowKit

theorem fixL_ttsub {ts : List Tk} {c : Int} {n : Nat} : ∀ (k : Nat) (ds : List Int), TtG n ds → SubD (fixL (ttS ts c) k ds) ds
  | 0, _, _ => SubD.refl _
  | k + 1, ds, h => by
    rw [fixL]
    split
    · rw [h.1]; exact zer_sub h.1
    · split
      · exact SubD.refl _
      · exact (fixL_ttsub k _ ((ttS_ok ts c n).stay ds h)).trans ((ttS_ok ts c n).sub ds h)
theorem fixL_ttdone {ts : List Tk} {c : Int} {n : Nat} : ∀ (k : Nat) (ds : List Int), TtG n ds → sumL ds < k → fixL (ttS ts c) k ds = zer n ∨ (hasI (fixL (ttS ts c) k ds) 0 = false ∧ ttS ts c (fixL (ttS ts c) k ds) = fixL (ttS ts c) k ds)
  | 0, ds, h, hs => by have := (sumL_bd ds h.2).1; omega
  | k + 1, ds, h, hs => by
    rw [fixL]
    cases h0 : hasI ds 0 with
    | true => rw [if_pos rfl, h.1]; exact .inl rfl
    | false =>
      rw [if_neg (by simp)]
      by_cases he : ttS ts c ds = ds
      · rw [if_pos he]; exact .inr ⟨h0, he⟩
      · rw [if_neg he]
        have hst := ttS_ok ts c n
        have hg := hst.stay ds h
        have := SubD.sum hg.2 h.2 (hst.sub ds h) he
        exact fixL_ttdone k _ hg (by omega)
/-- The tasks, the first k with the starts U. -/
def upT (ts : List Tk) (U : List Int) (k : Nat) : List Tk := (List.range ts.length).map (fun i => ⟨if i < k then at0 U i else tkS ts i, tkD ts i, tkM ts i⟩)
theorem upT_len (ts : List Tk) (U : List Int) (k : Nat) : (upT ts U k).length = ts.length := by simp [upT]
theorem upT_at (ts : List Tk) (U : List Int) (k : Nat) {i : Nat} (hi : i < ts.length) : tk0 (upT ts U k) i = ⟨if i < k then at0 U i else tkS ts i, tkD ts i, tkM ts i⟩ := by
  unfold tk0
  rw [getD_lt _ _ (by rw [upT_len]; exact hi)]
  simp [upT]
theorem upT_D (ts : List Tk) (U : List Int) (k i : Nat) : tkD (upT ts U k) i = tkD ts i := by
  by_cases hi : i < ts.length
  · unfold tkD; rw [upT_at ts U k hi]; rfl
  · unfold tkD tk0
    rw [List.getD_eq_getElem?_getD, List.getD_eq_getElem?_getD, List.getElem?_eq_none (by rw [upT_len]; omega), List.getElem?_eq_none (by omega)]
theorem upT_M (ts : List Tk) (U : List Int) (k i : Nat) : tkM (upT ts U k) i = tkM ts i := by
  by_cases hi : i < ts.length
  · unfold tkM; rw [upT_at ts U k hi]; rfl
  · unfold tkM tk0
    rw [List.getD_eq_getElem?_getD, List.getD_eq_getElem?_getD, List.getElem?_eq_none (by rw [upT_len]; omega), List.getElem?_eq_none (by omega)]
/-- What the law says. -/
theorem tt_law {ts : List Tk} {c : Int} (hp : 0 < (ttV ts c).length) : vTks ts = true ∧ 0 ≤ c ∧ inR c 0 9 = true ∧ (ttV ts c).length = ts.length ∧ TtG ts.length (startsL ts) ∧ SubD (ttV ts c) (startsL ts) ∧
    (∀ P, PropR [cumC ts c] ts.length (startsL ts) P → SubD P (ttV ts c)) ∧ (at0 (ttV ts c) 0 ≠ 0 → ttV (upT ts (ttV ts c) ts.length) c = ttV ts c) := by
  have hg : (vTks ts && inR c 0 9) = true := by
    cases h : vTks ts && inR c 0 9 with
    | true => rfl
    | false => rw [ttV, h] at hp; simp at hp
  have e : ttV ts c = fixL (ttS ts c) 300 (startsL ts) := by rw [ttV, hg]; rfl
  have hg2 := hg
  rw [Bool.and_eq_true] at hg2
  obtain ⟨hv, hc⟩ := hg2
  have hc0 : 0 ≤ c := by simp [inR] at hc; omega
  obtain ⟨hst, -⟩ := starts_tt hv
  obtain ⟨n1, n4, hb⟩ := vTks_bits hv
  have hfg := fixL_tt (ts := ts) (c := c) 300 _ hst
  have hsum := (sumL_bd (startsL ts) hst.2).2
  have hdone := fixL_ttdone (ts := ts) (c := c) 300 _ hst (by have := hst.1; omega)
  rw [← e] at hfg hdone
  refine ⟨hv, hc0, hc, hfg.1, hst, by rw [e]; exact fixL_ttsub 300 _ hst, fun P hR => by rw [e]; exact tt_prop hv hc0 hR, fun h0 => ?_⟩
  obtain ⟨U, hU⟩ : ∃ U, U = ttV ts c := ⟨_, rfl⟩
  rw [← hU] at hfg hdone h0 ⊢
  obtain ⟨hz, hfix⟩ : hasI U 0 = false ∧ ttS ts c U = U := by
    rcases hdone with hz | h
    · rw [hz, zer_at] at h0; exact absurd rfl h0
    · exact h
  have hUl := hfg.1
  have hus : vTks (upT ts U ts.length) = true := by
    rw [vTks_all (fun j hj => by
      rw [upT_len] at hj
      rw [upT_at ts U _ hj, if_pos hj]
      have h1 := hfg.2 j (by omega)
      have h2 : at0 U j ≠ 0 := fun e => by rw [hasI_iff.2 ⟨j, by omega, e⟩] at hz; cases hz
      have h3 := hb j hj
      refine vTk_of ?_ ?_ ?_ ?_
      · simp [vDom, inR]; omega
      · simp [h2]
      · simp [inR]; omega
      · simp [inR]; omega), upT_len]
    simp [inR]; omega
  have hss : startsL (upT ts U ts.length) = U := by
    refine at0_ext (by simp [startsL, upT_len, hUl]) fun i hi => ?_
    have hi2 : i < ts.length := by simpa [startsL, upT_len] using hi
    rw [startsL_at _ (by rw [upT_len]; exact hi2)]
    unfold tkS
    rw [upT_at ts U _ hi2, if_pos hi2]
  have hS : ttS (upT ts U ts.length) c U = U := by rw [ttS_congr (upT_len ts U _) (upT_D ts U _) (upT_M ts U _) c hfg.2]; exact hfix
  rw [ttV, hus, hc, Bool.and_self, if_pos rfl, hss]
  show fixL _ (299 + 1) U = U
  rw [fixL, if_neg (by rw [hz]; simp), if_pos hS]
/-! ### a row of tasks -/
def TkRow (B : Nat) (w : World) (v : Value) (us : List Tk) : Prop := ∃ g cap, v = .slice (some ⟨g, 0, none⟩) us.length cap ∧ us.length ≤ cap ∧ B ≤ g ∧ g < w.heap.size ∧ (∀ j, w.frozen? ⟨g, j, none⟩ = false) ∧
  ∀ i, i < us.length → w.cell? ⟨g, i * 3, none⟩ = some (.int .i64 (tkS us i)) ∧ w.cell? ⟨g, i * 3 + 1, none⟩ = some (.int .i64 (tkD us i)) ∧ w.cell? ⟨g, i * 3 + 2, none⟩ = some (.int .i64 (tkM us i))
theorem TkRow.ext {B : Nat} {w w' : World} {v : Value} {us : List Tk} (h : TkRow B w v us) (hx : Ext w w') : TkRow B w' v us := by
  obtain ⟨g, cap, h1, h2, h3, h4, h5, h6⟩ := h
  exact ⟨g, cap, h1, h2, h3, Nat.lt_of_lt_of_le h4 hx.size, fun j => (hx.frz _ _ h4).trans (h5 j), fun i hi => ⟨(hx.cells _ _ h4).trans (h6 i hi).1, (hx.cells _ _ h4).trans (h6 i hi).2.1, (hx.cells _ _ h4).trans (h6 i hi).2.2⟩⟩
theorem TkRow.tasks {B : Nat} {w : World} {v : Value} {us : List Tk} (h : TkRow B w v us) (hl : us.length ≤ 1000) (hb : ∀ i, i < us.length → I64 (tkS us i) ∧ I64 (tkD us i) ∧ I64 (tkM us i)) : STasks w v us := by
  obtain ⟨g, cap, h1, h2, h3, h4, h5, h6⟩ := h
  exact ⟨_, cap, h1, h2, by omega, hb, fun _ => ⟨g, 0, rfl, h4, fun i hi => by simp only [Nat.zero_add]; exact h6 i hi⟩⟩
theorem TkRow.put {B g cap : Nat} {w : World} {ts : List Tk} {U : List Int} {k : Nat} (h : TkRow B w (.slice (some ⟨g, 0, none⟩) ts.length cap) (upT ts U k)) (hk : k < ts.length) : TkRow B (w.setCell ⟨g, k * 3, none⟩ (.int .i64 (at0 U k))) (.slice (some ⟨g, 0, none⟩) ts.length cap) (upT ts U (k + 1)) := by
  obtain ⟨g', cap', h1, h2, h3, h4, h5, h6⟩ := h
  injection h1 with e1 _ e3
  injection e1 with e1
  injection e1 with e1 _ _
  subst e1 e3
  rw [upT_len] at h2
  refine ⟨g, cap, by rw [upT_len], by rw [upT_len]; exact h2, h3, by simpa [World.setCell] using h4, fun j => (World.frozen?_setCell ..).trans (h5 j), fun i hi => ?_⟩
  rw [upT_len] at hi
  obtain ⟨c0, c1, c2⟩ := h6 i (by rw [upT_len]; exact hi)
  have e0 : ∀ K, tk0 (upT ts U K) i = ⟨if i < K then at0 U i else tkS ts i, tkD ts i, tkM ts i⟩ := fun K => upT_at ts U K hi
  refine ⟨?_, ?_, ?_⟩
  · by_cases e : i = k
    · subst e
      rw [World.cell?_setCell_same' _ _ _ (by rw [c0]; rfl)]
      unfold tkS
      rw [e0, if_pos (Nat.lt_succ_self _)]
    · rw [World.cell?_setCell_other _ _ _ _ (by intro e2; injection e2 with _ e2 _; omega), c0]
      unfold tkS
      rw [e0, e0]
      have : (i < k + 1) ↔ (i < k) := by omega
      simp only [this]
  · rw [World.cell?_setCell_other _ _ _ _ (by intro e2; injection e2 with _ e2 _; omega), c1, upT_D, upT_D]
  · rw [World.cell?_setCell_other _ _ _ _ (by intro e2; injection e2 with _ e2 _; omega), c2, upT_M, upT_M]
/-- The cells of tasks. -/
def tkC : List Tk → List Value
  | [] => []
  | t :: ts => .int .i64 t.s :: .int .i64 t.d :: .int .i64 t.m :: tkC ts
theorem tkC_len : ∀ ts : List Tk, (tkC ts).length = ts.length * 3
  | [] => rfl
  | t :: ts => by simp [tkC, tkC_len ts]; omega
theorem tkC_at : ∀ (ts : List Tk) (i : Nat), i < ts.length → (tkC ts)[i * 3]? = some (.int .i64 (tkS ts i)) ∧ (tkC ts)[i * 3 + 1]? = some (.int .i64 (tkD ts i)) ∧ (tkC ts)[i * 3 + 2]? = some (.int .i64 (tkM ts i))
  | [], i, h => absurd h (by simp)
  | t :: ts, 0, _ => ⟨rfl, rfl, rfl⟩
  | t :: ts, i + 1, h => by
    have ih := tkC_at ts i (by simpa using h)
    have e0 : (i + 1) * 3 = i * 3 + 3 := by omega
    have e1 : i * 3 + 3 + 1 = i * 3 + 1 + 3 := by omega
    have e2 : i * 3 + 3 + 2 = i * 3 + 2 + 3 := by omega
    rw [e0, e1, e2]
    exact ih
theorem tkC_one : ∀ (ts : List Tk), ∀ u ∈ tkC ts, u.oneCell' = true
  | [], u, h => by simp [tkC] at h
  | t :: ts, u, h => by
    simp only [tkC, List.mem_cons] at h
    rcases h with rfl | rfl | rfl | h
    · rfl
    · rfl
    · rfl
    · exact tkC_one ts u h
theorem Tryd.infoTk9 : ∃ i, Tryd.prog.info? 42 = some i ∧ i.zero = some (.agg #[.int .i64 0, .int .i64 0, .int .i64 0]) ∧ i.size = 3 ∧ i.bytes = 24 := by
  obtain ⟨i, h1, h2⟩ := Option.map_eq_some_iff.1 (show (Tryd.prog.info? 42).map (fun i => (i.zero, i.size, i.bytes)) = some (some (.agg #[.int .i64 0, .int .i64 0, .int .i64 0]), 3, 24) by kernel_rfl)
  simp only [Prod.mk.injEq] at h2
  exact ⟨i, h1, h2.1, h2.2.1, h2.2.2⟩
set_option maxRecDepth 100000 in
/-- append of all tasks to an empty list. -/
theorem wpList_appTk (w : World) {ops : Array Oper} {rest : List Oper} {o : Oper} {a : Act} {Q : Exit → Act → World → Prop} (hgd : o.guard = none) (s x : Operand)
    (ho : o.op = .call { callee := .builtin .append, args := #[s, x], argTypes := #[26, 26] })
    (ts : List Tk) (ad : Addr) (v : Value) (hs : a.eval s = .slice (some ad) 0 0) (hx : a.eval x = v) (hS : STasks w v ts) (hp : 0 < ts.length) (hl : ts.length ≤ 1000)
    (hk : ∀ v' w', TkRow w.heap.size w' v' ts → Ext w w' → wpList Tryd.prog ops Q rest (a.put o.dst v') w') : wpList Tryd.prog ops Q (o :: rest) a w := by
  obtain ⟨i, hi, hz, hsz, hby⟩ := Tryd.infoTk9
  obtain ⟨A, cp, rfl, h2, h3, h4, h5⟩ := hS
  obtain ⟨b, off, rfl, hb, hc⟩ := h5 hp
  refine wpList_append_grows w hgd s x 26 ho 42 i _ 3 24 Tryd.underlying26 hi hz hsz hby rfl (by omega) (some ad) 0 0 [] hs (fun _ => ⟨rfl, rfl⟩) rfl (fun b _ j u hj => by simp at hj) ⟨b, off, none⟩ ts.length cp (tkC ts) hx (tkC_len ts) ?_ (tkC_one ts) (by omega) (by unfold maxLen; omega) (by omega) ?_
  · intro j u hj
    have hjl := (List.getElem?_eq_some_iff.1 hj).1
    rw [tkC_len] at hjl
    rw [Addr.add_lit]
    obtain ⟨q, r, hr, rfl⟩ : ∃ q r, r < 3 ∧ j = q * 3 + r := ⟨j / 3, j % 3, Nat.mod_lt _ (by omega), by omega⟩
    have hq : q < ts.length := by omega
    obtain ⟨t0, t1, t2⟩ := tkC_at ts q hq
    obtain ⟨c0, c1, c2⟩ := hc q hq
    match r, hr with
    | 0, _ => rw [Nat.add_zero] at hj ⊢; rw [t0] at hj; rw [c0]; exact hj
    | 1, _ => rw [t1] at hj; rw [← Nat.add_assoc, c1]; exact hj
    | 2, _ => rw [t2] at hj; rw [← Nat.add_assoc, c2]; exact hj
  · intro v' w' hr hg
    rw [Nat.zero_add, List.nil_append] at hr
    refine hk v' w' ?_ ⟨hg.os, hg.tape, hg.output, hg.size, fun k hk => hg.block k hk (by simp)⟩
    rcases hr.2 with ⟨h1, h2⟩ | ⟨g, cap, cur, h1, hgb, hh, hnc, hm, hcs, htk⟩
    · omega
    · refine ⟨g, cap, h1, hnc, hgb, (Array.getElem?_eq_some_iff.1 hh).1, fun j => by simp [World.frozen?, hh], fun i hi => ?_⟩
      have hcell : ∀ j u, (tkC ts)[j]? = some u → w'.cell? ⟨g, j, none⟩ = some u := fun j u hj => by
        have hjl := (List.getElem?_eq_some_iff.1 hj).1
        rw [tkC_len] at hjl
        rw [← htk, List.getElem?_take, if_pos hjl, Array.getElem?_toList] at hj
        simp [World.cell?, hh, hj]
      obtain ⟨t0, t1, t2⟩ := tkC_at ts i hi
      exact ⟨hcell _ _ t0, hcell _ _ t1, hcell _ _ t2⟩
end Go.Proofs.YtjpdebgejlfeaaaDoor
