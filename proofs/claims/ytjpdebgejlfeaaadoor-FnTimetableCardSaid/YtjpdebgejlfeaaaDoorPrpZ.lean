/- The fixpoint: plain Lean, and the program's walk of it. -/
import Derived.Test.YtjpdebgejlfeaaaDoorFilt
import Derived.Test.YtjpdebgejlfeaaaDoorFitK
import Derived.Deep.LoopGhost
namespace Go.Proofs.YtjpdebgejlfeaaaDoor
open Go.RowKit

/-- The first k constraints in turn. -/
def stepK (cs : List Con) (ds : List Int) : Nat → List Int
  | 0 => ds
  | k + 1 => filtL (con0 cs k) (stepK cs ds k)
def stepL (cs : List Con) (ds : List Int) : List Int := stepK cs ds cs.length
/-- Applied until nothing changes; all are empty if one is. -/
def fixL (st : List Int → List Int) : Nat → List Int → List Int
  | 0, ds => ds
  | n + 1, ds => if hasI ds 0 = true then zer ds.length else if st ds = ds then ds else fixL st n (st ds)
def propL (cs : List Con) (ds : List Int) : List Int := fixL (stepL cs) 300 ds
/-- A step that makes domains smaller. -/
structure StOK (st : List Int → List Int) (G : List Int → Prop) (n : Nat) : Prop where
  dom : ∀ ds, G ds → DomL ds
  len : ∀ ds, G ds → ds.length = n
  sub : ∀ ds, G ds → SubD (st ds) ds
  stay : ∀ ds, G ds → G (st ds)
theorem StOK.i64 {st : List Int → List Int} {G : List Int → Prop} {n : Nat} (h : StOK st G n) (ds : List Int) (hg : G ds) : ∀ i, i < ds.length → I64 (at0 ds i) := fun i hi => by
  have := h.dom ds hg i hi; unfold I64; omega
/-- Domains of n variables, all constraints valid. -/
def GoodD (cs : List Con) (n : Nat) (ds : List Int) : Prop := ds.length = n ∧ DomL ds ∧ ∀ i, i < cs.length → vCon (con0 cs i) n = true
theorem GoodD.filt {cs : List Con} {n : Nat} {ds : List Int} (h : GoodD cs n ds) {i : Nat} (hi : i < cs.length) : GoodD cs n (filtL (con0 cs i) ds) ∧ SubD (filtL (con0 cs i) ds) ds := by
  obtain ⟨h1, h2, h3⟩ := h
  have hv : VarOK (con0 cs i).vars ds.length := by rw [h1]; exact vCon_var (h3 i hi)
  exact ⟨⟨(filtP_len _ _ _).trans h1, filtP_dom hv h2, h3⟩, filtP_sub hv⟩
theorem GoodD.stepK {cs : List Con} {n : Nat} {ds : List Int} (h : GoodD cs n ds) : ∀ k, k ≤ cs.length → GoodD cs n (stepK cs ds k) ∧ SubD (stepK cs ds k) ds
  | 0, _ => ⟨h, SubD.refl _⟩
  | k + 1, hk => by
    obtain ⟨h1, h2⟩ := GoodD.stepK h k (by omega)
    obtain ⟨h3, h4⟩ := h1.filt (i := k) (by omega)
    exact ⟨h3, h4.trans h2⟩
theorem stepOK (cs : List Con) (n : Nat) : StOK (stepL cs) (GoodD cs n) n :=
  ⟨fun _ h => h.2.1, fun _ h => h.1, fun _ h => (h.stepK _ (Nat.le_refl _)).2, fun _ h => (h.stepK _ (Nat.le_refl _)).1⟩
/-- A slice of its own, or the one that came. -/
def OwnOr (v : Value) (xs ys : List Int) (w : World) (e : Ending) (w' : World) : Prop := OwnRes ys w e w' ∨ (e = .returned v ∧ ys = xs ∧ Ext w w')
theorem OwnRes.grow {xs : List Int} {w W W' : World} {e : Ending} (h : OwnRes xs w e W) (hx : Ext W W') : OwnRes xs w e W' := by
  obtain ⟨A, c, b, m, f, h1, h2, h3, h4, h5, h6⟩ := h
  exact ⟨A, c, b, m, f, h1, h2, h3, h4, h5.ext hx, h6.trans hx⟩
set_option maxRecDepth 100000 in
set_option maxHeartbeats 4000000 in
theorem fixpointB_any (vd : Value) (ds : List Int) (gf : Nat) (fv : Value) (st : List Int → List Int) (G : List Int → Prop) (w : World) (hD : SInts w vd ds) (hG : G ds) (hst : StOK st G ds.length) (h4 : ds.length ≤ 4) (h1 : 0 < ds.length)
    (hg : ∀ args W, (callFunc gf args).run Tryd.prog W = .ok (.enter gf args) W) (hs : Hid (∀ now v' W, Ext w W → SInts W v' now → G now → Calls Tryd.prog gf #[fv, v'] W (OwnOr v' now (st now) W))) :
    Calls Tryd.prog 25 #[vd, .func (.func gf) #[fv] #[]] w (OwnRes (fixL st 300 ds) w) := by
  have hD0 := hide hD
  have HST := hide hst
  have HGD := hide hG
  obtain ⟨Ad, cd, rfl, -, hld⟩ := hD.form
  clear hD hst hG
  go_enter Tryd.func25, Tryd.ntmps25
  go_wp2_with fail
  refine (copied_any _ ds _ hD0.out).mono ?_
  rintro e w1 ⟨A1, c1, b1, m1, f1, rfl, hc1, hb1, hn1, ho1, hx1⟩
  have HO := hide (show OwnRes ds w (.returned (.slice A1 ds.length c1)) w1 from ⟨A1, c1, b1, m1, f1, rfl, hc1, hb1, hn1, ho1, hx1⟩)
  obtain ⟨n, hn⟩ : ∃ n, n = ds.length := ⟨_, rfl⟩
  have HN := hide hn
  rw [← hn] at h4 h1 HO ⊢
  clear hn ho1 hx1 hb1 hn1
  go_wp2
  go_loopg [5] 300 (fun gk v wr => ∃ now : List Int, now.length = n ∧ OwnRes now w (.returned v) wr ∧ G now ∧ fixL st gk now = fixL st 300 ds ∧ sumL now < gk)
  case atStart => exact ⟨ds, HN.out.symm, HO.out, HGD.out, rfl, by have := sumL_bd ds (HST.out.dom ds HGD.out); have := HN.out; omega⟩
  case round =>
    obtain ⟨now, hnl, ⟨A, cc, b, m, f, hv, hc, hb, hnb, ho, hx⟩, hgn, hR, hsum⟩ := hrel
    injection hv with hv
    subst hv
    have HS := hide (SInts.own hc hb ho (HST.out.i64 now hgn))
    have HOW := hide (show OwnRes now w (.returned (.slice A now.length cc)) wr from ⟨A, cc, b, m, f, rfl, hc, hb, hnb, ho, hx⟩)
    have HGN := hide hgn
    have HR := hide hR
    have HX := hide hx
    have HNL := hide hnl
    have hsb := (sumL_bd now (HST.out.dom now hgn)).1
    obtain ⟨k, rfl⟩ : ∃ k, gk = k + 1 := ⟨gk - 1, by omega⟩
    rw [hnl] at HS HOW ⊢
    clear hgn hR hx ho hnb hnl hc
    cases h0 : hasI now 0 with
    | true =>
      have H0 := hide h0
      have HZ := hide (show fixL st 300 ds = zer n by rw [← HR.out, fixL, if_pos h0, HNL.out])
      clear h0
      go_wp2_with (first | (go_at_call 43; refine (Contains_any _ now _ _ HS.out).mono ?_; rintro e w' ⟨rfl, rfl⟩; rw [H0.out]) | (at_make; go_must (refine wpList_make_gen _ rfl _ _ 24 rfl 3 (.int .i64 0) 1 8 Tryd.underlying24 Tryd.infoI .i64 .i64 n rfl rfl (by omega) (by omega) (fun _ => .int .i64 0) (fun i _ => by simp [Value.cells, Nat.mod_one]) ?_); intro w3 hrow3 hsz3 hx3; rw [Nat.mul_one] at hrow3; have HROW := hide hrow3; have HX3 := hide hx3; clear hrow3 hsz3 hx3))
      go_ret
      rw [HZ.out]
      exact (show OwnRes (zer n) w (.returned (.slice (some ⟨wr.heap.size, 0, none⟩) n n)) w3 from ⟨some ⟨wr.heap.size, 0, none⟩, n, wr.heap.size, n, _, by rw [zer_len], by rw [zer_len]; exact Nat.le_refl _, by rw [zer_len]; omega, HX.out.size, fun _ => ⟨rfl, HROW.out, by rw [zer_len]; exact Nat.le_refl _, fun i _ => by rw [zer_at]⟩, HX.out.trans HX3.out⟩)
    | false =>
      have H0 := hide h0
      clear h0
      go_wp2_with (go_at_call 43; refine (Contains_any _ now _ _ HS.out).mono ?_; rintro e w' ⟨rfl, rfl⟩; rw [H0.out])
      refine (hs.out now _ _ HX.out HS.out HGN.out).mono ?_
      rintro e w3 (hown | ⟨rfl, heq, hx3⟩)
      · obtain ⟨A3, c3, b3, m3, f3, rfl, hc3, hb3, hn3, ho3, hx3⟩ := hown
        have hl3 : (st now).length = n := by rw [(HST.out.sub now HGN.out).len, HNL.out]
        have HS3 := hide (SInts.own hc3 hb3 ho3 (HST.out.i64 _ (HST.out.stay now HGN.out)))
        have HO3 := hide (show OwnRes (st now) w (.returned (.slice A3 (st now).length c3)) w3 from ⟨A3, c3, b3, m3, f3, rfl, hc3, hb3, Nat.le_trans HX.out.size hn3, ho3, HX.out.trans hx3⟩)
        have HOW3 := hide (HOW.out.grow hx3)
        have HS2 := hide (HS.out.ext hx3)
        have HX3 := hide hx3
        have HL3 := hide hl3
        rw [hl3] at HS3 HO3 ⊢
        clear hx3 ho3 hn3 hb3 hc3 hl3
        go_wp2_with fail
        refine (EqualI_any _ _ (st now) now _ HS3.out HS2.out).mono ?_
        rintro e w4 ⟨rfl, hx4⟩
        have HX4 := hide hx4
        clear hx4
        by_cases he : st now = now
        · have HE := hide (show fixL st 300 ds = now by rw [← HR.out, fixL, if_neg (by rw [H0.out]; simp), if_pos he])
          rw [decide_eq_true he]
          clear he
          go_wp2
          go_ret
          rw [HE.out]
          exact HOW3.out.grow HX4.out
        · have HE := hide (show fixL st 300 ds = fixL st k (st now) by rw [← HR.out, fixL, if_neg (by rw [H0.out]; simp), if_neg he])
          have hlt := SubD.sum (HST.out.dom _ (HST.out.stay now HGN.out)) (HST.out.dom now HGN.out) (HST.out.sub now HGN.out) he
          rw [decide_eq_false he]
          have HLT := hide hlt
          clear he hlt
          go_wp2
          go_roundg k
          case measure => omega
          case rel => exact ⟨st now, HL3.out, HO3.out.grow HX4.out, HST.out.stay now HGN.out, HE.out.symm, by have := HLT.out; omega⟩
      · have HOW3 := hide (HOW.out.grow hx3)
        have HS2 := hide (HS.out.ext hx3)
        have HE := hide (show fixL st 300 ds = now by rw [← HR.out, fixL, if_neg (by rw [H0.out]; simp), if_pos heq])
        clear hx3 heq
        go_wp2_with fail
        refine (EqualI_any _ _ now now _ HS2.out HS2.out).mono ?_
        rintro e w4 ⟨rfl, hx4⟩
        have HX4 := hide hx4
        have htt : decide (now = now) = true := by simp
        rw [htt]
        clear hx4 htt
        go_wp2
        go_ret
        rw [HE.out]
        exact HOW3.out.grow HX4.out
set_option maxRecDepth 100000 in
set_option maxHeartbeats 4000000 in
theorem fixpointC_any (vd : Value) (ds : List Int) (gf : Nat) (caps : Array Value) (st : List Int → List Int) (G : List Int → Prop) (w : World) (hD : SInts w vd ds) (hG : G ds) (hst : StOK st G ds.length) (h4 : ds.length ≤ 4) (h1 : 0 < ds.length)
    (hg : ∀ args W, (callFunc gf args).run Tryd.prog W = .ok (.enter gf args) W) (hs : Hid (∀ now v' W, Ext w W → SInts W v' now → G now → Calls Tryd.prog gf (#[v'] ++ caps) W (OwnOr v' now (st now) W))) :
    Calls Tryd.prog 25 #[vd, .func (.func gf) #[] caps] w (OwnRes (fixL st 300 ds) w) := by
  have hD0 := hide hD
  have HST := hide hst
  have HGD := hide hG
  obtain ⟨Ad, cd, rfl, -, hld⟩ := hD.form
  clear hD hst hG
  go_enter Tryd.func25, Tryd.ntmps25
  go_wp2_with fail
  refine (copied_any _ ds _ hD0.out).mono ?_
  rintro e w1 ⟨A1, c1, b1, m1, f1, rfl, hc1, hb1, hn1, ho1, hx1⟩
  have HO := hide (show OwnRes ds w (.returned (.slice A1 ds.length c1)) w1 from ⟨A1, c1, b1, m1, f1, rfl, hc1, hb1, hn1, ho1, hx1⟩)
  obtain ⟨n, hn⟩ : ∃ n, n = ds.length := ⟨_, rfl⟩
  have HN := hide hn
  rw [← hn] at h4 h1 HO ⊢
  clear hn ho1 hx1 hb1 hn1
  go_wp2
  go_loopg [5] 300 (fun gk v wr => ∃ now : List Int, now.length = n ∧ OwnRes now w (.returned v) wr ∧ G now ∧ fixL st gk now = fixL st 300 ds ∧ sumL now < gk)
  case atStart => exact ⟨ds, HN.out.symm, HO.out, HGD.out, rfl, by have := sumL_bd ds (HST.out.dom ds HGD.out); have := HN.out; omega⟩
  case round =>
    obtain ⟨now, hnl, ⟨A, cc, b, m, f, hv, hc, hb, hnb, ho, hx⟩, hgn, hR, hsum⟩ := hrel
    injection hv with hv
    subst hv
    have HS := hide (SInts.own hc hb ho (HST.out.i64 now hgn))
    have HOW := hide (show OwnRes now w (.returned (.slice A now.length cc)) wr from ⟨A, cc, b, m, f, rfl, hc, hb, hnb, ho, hx⟩)
    have HGN := hide hgn
    have HR := hide hR
    have HX := hide hx
    have HNL := hide hnl
    have hsb := (sumL_bd now (HST.out.dom now hgn)).1
    obtain ⟨k, rfl⟩ : ∃ k, gk = k + 1 := ⟨gk - 1, by omega⟩
    rw [hnl] at HS HOW ⊢
    clear hgn hR hx ho hnb hnl hc
    cases h0 : hasI now 0 with
    | true =>
      have H0 := hide h0
      have HZ := hide (show fixL st 300 ds = zer n by rw [← HR.out, fixL, if_pos h0, HNL.out])
      clear h0
      go_wp2_with (first | (go_at_call 43; refine (Contains_any _ now _ _ HS.out).mono ?_; rintro e w' ⟨rfl, rfl⟩; rw [H0.out]) | (at_make; go_must (refine wpList_make_gen _ rfl _ _ 24 rfl 3 (.int .i64 0) 1 8 Tryd.underlying24 Tryd.infoI .i64 .i64 n rfl rfl (by omega) (by omega) (fun _ => .int .i64 0) (fun i _ => by simp [Value.cells, Nat.mod_one]) ?_); intro w3 hrow3 hsz3 hx3; rw [Nat.mul_one] at hrow3; have HROW := hide hrow3; have HX3 := hide hx3; clear hrow3 hsz3 hx3))
      go_ret
      rw [HZ.out]
      exact (show OwnRes (zer n) w (.returned (.slice (some ⟨wr.heap.size, 0, none⟩) n n)) w3 from ⟨some ⟨wr.heap.size, 0, none⟩, n, wr.heap.size, n, _, by rw [zer_len], by rw [zer_len]; exact Nat.le_refl _, by rw [zer_len]; omega, HX.out.size, fun _ => ⟨rfl, HROW.out, by rw [zer_len]; exact Nat.le_refl _, fun i _ => by rw [zer_at]⟩, HX.out.trans HX3.out⟩)
    | false =>
      have H0 := hide h0
      clear h0
      go_wp2_with (go_at_call 43; refine (Contains_any _ now _ _ HS.out).mono ?_; rintro e w' ⟨rfl, rfl⟩; rw [H0.out])
      refine (hs.out now _ _ HX.out HS.out HGN.out).mono ?_
      rintro e w3 (hown | ⟨rfl, heq, hx3⟩)
      · obtain ⟨A3, c3, b3, m3, f3, rfl, hc3, hb3, hn3, ho3, hx3⟩ := hown
        have hl3 : (st now).length = n := by rw [(HST.out.sub now HGN.out).len, HNL.out]
        have HS3 := hide (SInts.own hc3 hb3 ho3 (HST.out.i64 _ (HST.out.stay now HGN.out)))
        have HO3 := hide (show OwnRes (st now) w (.returned (.slice A3 (st now).length c3)) w3 from ⟨A3, c3, b3, m3, f3, rfl, hc3, hb3, Nat.le_trans HX.out.size hn3, ho3, HX.out.trans hx3⟩)
        have HOW3 := hide (HOW.out.grow hx3)
        have HS2 := hide (HS.out.ext hx3)
        have HX3 := hide hx3
        have HL3 := hide hl3
        rw [hl3] at HS3 HO3 ⊢
        clear hx3 ho3 hn3 hb3 hc3 hl3
        go_wp2_with fail
        refine (EqualI_any _ _ (st now) now _ HS3.out HS2.out).mono ?_
        rintro e w4 ⟨rfl, hx4⟩
        have HX4 := hide hx4
        clear hx4
        by_cases he : st now = now
        · have HE := hide (show fixL st 300 ds = now by rw [← HR.out, fixL, if_neg (by rw [H0.out]; simp), if_pos he])
          rw [decide_eq_true he]
          clear he
          go_wp2
          go_ret
          rw [HE.out]
          exact HOW3.out.grow HX4.out
        · have HE := hide (show fixL st 300 ds = fixL st k (st now) by rw [← HR.out, fixL, if_neg (by rw [H0.out]; simp), if_neg he])
          have hlt := SubD.sum (HST.out.dom _ (HST.out.stay now HGN.out)) (HST.out.dom now HGN.out) (HST.out.sub now HGN.out) he
          rw [decide_eq_false he]
          have HLT := hide hlt
          clear he hlt
          go_wp2
          go_roundg k
          case measure => omega
          case rel => exact ⟨st now, HL3.out, HO3.out.grow HX4.out, HST.out.stay now HGN.out, HE.out.symm, by have := HLT.out; omega⟩
      · have HOW3 := hide (HOW.out.grow hx3)
        have HS2 := hide (HS.out.ext hx3)
        have HE := hide (show fixL st 300 ds = now by rw [← HR.out, fixL, if_neg (by rw [H0.out]; simp), if_pos heq])
        clear hx3 heq
        go_wp2_with fail
        refine (EqualI_any _ _ now now _ HS2.out HS2.out).mono ?_
        rintro e w4 ⟨rfl, hx4⟩
        have HX4 := hide hx4
        have htt : decide (now = now) = true := by simp
        rw [htt]
        clear hx4 htt
        go_wp2
        go_ret
        rw [HE.out]
        exact HOW3.out.grow HX4.out
end Go.Proofs.YtjpdebgejlfeaaaDoor
/- Propagation, probing and shaving in plain Lean. -/
namespace Go.Proofs.YtjpdebgejlfeaaaDoor
open Go.RowKit

theorem hasI_iff {xs : List Int} {x : Int} : hasI xs x = true ↔ ∃ i, i < xs.length ∧ at0 xs i = x := by
  unfold hasI
  rw [anyB_iff]
  constructor
  · rintro ⟨i, h1, h2⟩
    exact ⟨i, h1, (beq_iff_eq.1 h2).symm⟩
  · rintro ⟨i, h1, h2⟩
    exact ⟨i, h1, beq_iff_eq.2 h2.symm⟩
theorem hasI_zer {n : Nat} (h : 0 < n) : hasI (zer n) 0 = true := hasI_iff.2 ⟨0, by rw [zer_len]; exact h, zer_at _ _⟩
/-- No constraint takes away a value. -/
def conB (cs : List Con) (ds : List Int) : Bool := !anyB (fun i => decide (filtL (con0 cs i) ds ≠ ds)) cs.length
theorem stepK_sub {cs : List Con} {n : Nat} {ds : List Int} (h : GoodD cs n ds) : ∀ j k, j + k ≤ cs.length → SubD (stepK cs ds (j + k)) (stepK cs ds j)
  | j, 0, _ => SubD.refl _
  | j, k + 1, hk => ((h.stepK (j + k) (by omega)).1.filt (i := j + k) (by omega)).2.trans (stepK_sub h j k (by omega))
theorem conB_iff {cs : List Con} {n : Nat} {ds : List Int} (h : GoodD cs n ds) : conB cs ds = true ↔ stepL cs ds = ds := by
  unfold conB
  rw [Bool.not_eq_true', anyB_false]
  constructor
  · intro hc
    have : ∀ k, k ≤ cs.length → stepK cs ds k = ds := by
      intro k
      induction k with
      | zero => intro _; rfl
      | succ k ih =>
        intro hk
        have := hc k (by omega)
        rw [stepK, ih (by omega)]
        simpa using this
    exact this _ (Nat.le_refl _)
  · intro he i hi
    have e : ∀ k, k ≤ cs.length → stepK cs ds k = ds := fun k hk => by
      obtain ⟨h1, h2⟩ := h.stepK k hk
      have h3 := stepK_sub h k (cs.length - k) (by omega)
      rw [show k + (cs.length - k) = cs.length by omega] at h3
      have h3 : SubD ds (stepK cs ds k) := by
        have h4 : stepK cs ds cs.length = ds := he
        rwa [h4] at h3
      exact SubD.antisymm h1.2.1 h.2.1 h2 h3
    have h1 := e (i + 1) (by omega)
    rw [stepK, e i (by omega)] at h1
    simpa using h1
/-- What propagation leaves. -/
structure PropR (cs : List Con) (n : Nat) (ds r : List Int) : Prop where
  good : GoodD cs n r
  sub : SubD r ds
  cas : r = zer n ∨ (hasI r 0 = false ∧ stepL cs r = r)
theorem GoodD.zer {cs : List Con} {n : Nat} {ds : List Int} (h : GoodD cs n ds) : GoodD cs n (zer n) := ⟨zer_len n, DomL.zer n, h.2.2⟩
theorem zer_sub {n : Nat} {ds : List Int} (h : ds.length = n) : SubD (zer n) ds := ⟨by rw [zer_len, h], fun u _ v _ hh => by rw [zer_at, hasB_zero] at hh; cases hh⟩
theorem fixL_R {cs : List Con} {n : Nat} : ∀ (k : Nat) (ds : List Int), GoodD cs n ds → sumL ds < k → PropR cs n ds (fixL (stepL cs) k ds)
  | 0, ds, h, hs => by have := (sumL_bd ds h.2.1).1; omega
  | k + 1, ds, h, hs => by
    rw [fixL]
    cases h0 : hasI ds 0 with
    | true =>
      rw [if_pos rfl, h.1]
      exact ⟨h.zer, zer_sub h.1, .inl rfl⟩
    | false =>
      rw [if_neg (by simp)]
      have hst := stepOK cs n
      by_cases he : stepL cs ds = ds
      · rw [if_pos he]
        exact ⟨h, SubD.refl _, .inr ⟨h0, he⟩⟩
      · rw [if_neg he]
        have := SubD.sum (hst.dom _ (hst.stay ds h)) (hst.dom ds h) (hst.sub ds h) he
        obtain ⟨a, b, c⟩ := fixL_R k (stepL cs ds) (hst.stay ds h) (by omega)
        exact ⟨a, b.trans (hst.sub ds h), c⟩
theorem propL_R {cs : List Con} {n : Nat} {ds : List Int} (h : GoodD cs n ds) (h4 : n ≤ 4) : PropR cs n ds (propL cs ds) := by
  refine fixL_R 300 ds h ?_
  have := (sumL_bd ds h.2.1).2
  have := h.1
  omega
theorem propL_stay {cs : List Con} {n : Nat} {r : List Int} (hl : r.length = n) (hc : r = zer n ∨ (hasI r 0 = false ∧ stepL cs r = r)) (h0 : 0 < n) : propL cs r = r := by
  unfold propL
  rw [show (300 : Nat) = 299 + 1 from rfl, fixL]
  rcases hc with rfl | ⟨h1, h2⟩
  · rw [if_pos (hasI_zer h0), hl]
  · rw [h1, if_neg (by simp), if_pos h2]
theorem propL_idem {cs : List Con} {n : Nat} {ds : List Int} (h : GoodD cs n ds) (h4 : n ≤ 4) (h0 : 0 < n) : propL cs (propL cs ds) = propL cs ds := by
  have hr := propL_R h h4
  exact propL_stay hr.good.1 hr.cas h0
/-- One empty domain, and the first one is. -/
theorem propL_first {cs : List Con} {n : Nat} {ds : List Int} (h : GoodD cs n ds) (h4 : n ≤ 4) (h0 : 0 < n) : (at0 (propL cs ds) 0 == 0) = hasI (propL cs ds) 0 := by
  have hr := propL_R h h4
  rcases hr.cas with e | ⟨e, -⟩
  · rw [e, hasI_zer h0, zer_at]; rfl
  · rw [e]
    have : at0 (propL cs ds) 0 ≠ 0 := fun h2 => by
      have := hasI_iff.2 ⟨0, by rw [hr.good.1]; exact h0, h2⟩
      rw [e] at this; cases this
    simpa using this
theorem propL_empty {cs : List Con} {n : Nat} {ds : List Int} (h : GoodD cs n ds) (h4 : n ≤ 4) (he : hasI (propL cs ds) 0 = true) : propL cs ds = zer n := by
  have hr := propL_R h h4
  rcases hr.cas with e | ⟨e, -⟩
  · exact e
  · rw [e] at he; cases he
/-- A domain with one value of it. -/
def andV (d : Int) (a : Nat) : Int := if hasB d a then 2 ^ a else 0
theorem bits_and {d : Int} (h0 : 0 ≤ d) (h1 : d ≤ 63) {v : Nat} (hv : v < 6) : bits .and .i64 d (2 ^ v) = andV d v := by
  have := fin_dv (p := fun d v => bits .and .i64 d (2 ^ v) == andV d v) (by decide +kernel) h0 h1 hv
  simpa using this
theorem andV_bd {d : Int} (h0 : 0 ≤ d) (h1 : d ≤ 63) {v : Nat} (hv : v < 6) : 0 ≤ andV d v ∧ andV d v ≤ 63 := by
  have := fin_dv (p := fun d v => decide (0 ≤ andV d v) && decide (andV d v ≤ 63)) (by decide +kernel) h0 h1 hv
  simpa using this
theorem pow_bd {v : Nat} (hv : v < 6) : (1 : Int) ≤ 2 ^ v ∧ (2 : Int) ^ v ≤ 32 := by
  have := fin_dv (p := fun _ v => decide ((1 : Int) ≤ 2 ^ v) && decide ((2 : Int) ^ v ≤ 32)) (by decide +kernel) (Int.le_refl 0) (by omega) hv
  simpa using this
theorem andV_has {d : Int} (h0 : 0 ≤ d) (h1 : d ≤ 63) {v u : Nat} (hv : v < 6) (hu : u < 6) : hasB (andV d v) u = (hasB d u && u == v) := by
  have := fin_dvu (p := fun d v u => hasB (andV d v) u == (hasB d u && u == v)) (by decide +kernel) h0 h1 hv hu
  simpa using this
/-- A domain without a value. -/
def delV (d : Int) (a : Nat) : Int := if hasB d a then d - 2 ^ a else d
theorem bits_andNot {d : Int} (h0 : 0 ≤ d) (h1 : d ≤ 63) {v : Nat} (hv : v < 6) : bits .andNot .i64 d (2 ^ v) = delV d v := by
  have := fin_dv (p := fun d v => bits .andNot .i64 d (2 ^ v) == delV d v) (by decide +kernel) h0 h1 hv
  simpa using this
theorem delV_bd {d : Int} (h0 : 0 ≤ d) (h1 : d ≤ 63) {v : Nat} (hv : v < 6) : 0 ≤ delV d v ∧ delV d v ≤ 63 := by
  have := fin_dv (p := fun d v => decide (0 ≤ delV d v) && decide (delV d v ≤ 63)) (by decide +kernel) h0 h1 hv
  simpa using this
theorem delV_has {d : Int} (h0 : 0 ≤ d) (h1 : d ≤ 63) {v u : Nat} (hv : v < 6) (hu : u < 6) : hasB (delV d v) u = (hasB d u && u != v) := by
  have := fin_dvu (p := fun d v u => hasB (delV d v) u == (hasB d u && u != v)) (by decide +kernel) h0 h1 hv hu
  simpa using this
theorem GoodD.set {cs : List Con} {n : Nat} {ds : List Int} (h : GoodD cs n ds) (i : Nat) {x : Int} (hx : 0 ≤ x ∧ x ≤ 63) : GoodD cs n (ds.set i x) := by
  refine ⟨by rw [List.length_set]; exact h.1, fun j hj => ?_, h.2.2⟩
  rw [List.length_set] at hj
  by_cases hi : i < ds.length
  · rw [at0_set _ _ _ _ hi]
    split
    · exact hx
    · exact h.2.1 j hj
  · rw [List.set_eq_of_length_le (by omega)]
    exact h.2.1 j hj
theorem sub_set {ds : List Int} {i : Nat} {x : Int} (hi : i < ds.length) (h : ∀ v, v < 6 → hasB x v = true → hasB (at0 ds i) v = true) : SubD (ds.set i x) ds := by
  refine ⟨by simp, fun u _ v hv hh => ?_⟩
  rw [at0_set _ _ _ _ hi] at hh
  split at hh
  · rename_i e; subst e; exact h v hv hh
  · exact hh
def probD (ds : List Int) (v a : Nat) : List Int := ds.set v (andV (at0 ds v) a)
def probL (cs : List Con) (ds : List Int) (v a : Nat) : List Int := propL cs (probD ds v a)
theorem GoodD.prob {cs : List Con} {n : Nat} {ds : List Int} (h : GoodD cs n ds) {v a : Nat} (hv : v < n) (ha : a < 6) : GoodD cs n (probD ds v a) := by
  have := h.2.1 v (by rw [h.1]; exact hv)
  exact h.set v (andV_bd this.1 this.2 ha)
/-- No probe of a value fails. -/
def singB (cs : List Con) (ds : List Int) : Bool := !hasI ds 0 && !anyB (fun v => anyB (fun k => hasI (probL cs ds v (at0 (domL (at0 ds v)) k).toNat) 0) (domL (at0 ds v)).length) ds.length
end Go.Proofs.YtjpdebgejlfeaaaDoor
/- Shaving in plain Lean: the program's way and the reference's end in the same domains. -/
namespace Go.Proofs.YtjpdebgejlfeaaaDoor
open Go.RowKit

/-- The first k values of a list are taken away from domain v, if the probe of them fails. -/
def shvI (cs : List Con) (v : Nat) (l ds : List Int) : Nat → List Int
  | 0 => ds
  | k + 1 => if hasI (probL cs (shvI cs v l ds k) v (at0 l k).toNat) 0 = true then (shvI cs v l ds k).set v (delV (at0 (shvI cs v l ds k) v) (at0 l k).toNat) else shvI cs v l ds k
/-- The first k domains are shaved. -/
def shvK (cs : List Con) (ds : List Int) : Nat → List Int
  | 0 => ds
  | k + 1 => shvI cs k (domL (at0 (shvK cs ds k) k)) (shvK cs ds k) (domL (at0 (shvK cs ds k) k)).length
def shvL (cs : List Con) (ds : List Int) : List Int := shvK cs ds ds.length
theorem domL_val (d : Int) {k : Nat} (hk : k < (domL d).length) : ∃ a : Nat, at0 (domL d) k = a ∧ a < 6 := by
  have := domL_bd d hk
  exact ⟨(at0 (domL d) k).toNat, by omega, by omega⟩
theorem shvI_ok {cs : List Con} {n : Nat} {ds : List Int} (h : GoodD cs n ds) {v : Nat} (hv : v < n) (e : Int) : ∀ k, k ≤ (domL e).length → GoodD cs n (shvI cs v (domL e) ds k) ∧ SubD (shvI cs v (domL e) ds k) ds
  | 0, _ => ⟨h, SubD.refl _⟩
  | k + 1, hk => by
    obtain ⟨h1, h2⟩ := shvI_ok h hv e k (by omega)
    rw [shvI]
    split
    · obtain ⟨a, ha, ha6⟩ := domL_val e (k := k) (by omega)
      rw [ha, Int.toNat_natCast]
      have hb := h1.2.1 v (by rw [h1.1]; exact hv)
      refine ⟨h1.set v (delV_bd hb.1 hb.2 ha6), (sub_set (by rw [h1.1]; exact hv) (fun u hu hh => ?_)).trans h2⟩
      rw [delV_has hb.1 hb.2 ha6 hu, Bool.and_eq_true] at hh
      exact hh.1
    · exact ⟨h1, h2⟩
theorem shvK_ok {cs : List Con} {n : Nat} {ds : List Int} (h : GoodD cs n ds) : ∀ k, k ≤ n → GoodD cs n (shvK cs ds k) ∧ SubD (shvK cs ds k) ds
  | 0, _ => ⟨h, SubD.refl _⟩
  | k + 1, hk => by
    obtain ⟨h1, h2⟩ := shvK_ok h k (by omega)
    obtain ⟨h3, h4⟩ := shvI_ok h1 (v := k) (by omega) (at0 (shvK cs ds k) k) _ (Nat.le_refl _)
    exact ⟨h3, h4.trans h2⟩
theorem shvL_ok {cs : List Con} {n : Nat} {ds : List Int} (h : GoodD cs n ds) : GoodD cs n (shvL cs ds) ∧ SubD (shvL cs ds) ds :=
  shvK_ok h _ (by rw [h.1]; exact Nat.le_refl _)
theorem domK_sorted (d : Int) : ∀ k, (domK d k).Pairwise (· < ·)
  | 0 => by simp [domK]
  | k + 1 => by
    unfold domK
    split
    · refine List.pairwise_append.2 ⟨domK_sorted d k, by simp, fun x hx y hy => ?_⟩
      have := domK_mem d k x hx
      simp at hy
      omega
    · exact domK_sorted d k
theorem domL_lt (d : Int) {i j : Nat} (hij : i < j) (hj : j < (domL d).length) : at0 (domL d) i < at0 (domL d) j := by
  have := List.pairwise_iff_getElem.1 (domK_sorted d 6) i j (by show i < (domL d).length; omega) hj hij
  unfold at0
  rw [getD_lt _ _ hj, getD_lt _ _ (by omega)]
  exact this
theorem domL_at (d : Int) {k : Nat} (hk : k < (domL d).length) : hasB d (at0 (domL d) k).toNat = true := by
  obtain ⟨a, ha, ha6⟩ := domL_val d hk
  have hm : (a : Int) ∈ domL d := by
    rw [← ha]; unfold at0; rw [getD_lt _ _ hk]; exact List.getElem_mem hk
  rw [ha, Int.toNat_natCast]
  exact ((domL_in d a).1 hm).2
/-- The values that are still to come are still there. -/
theorem shvI_has {cs : List Con} {n : Nat} {ds : List Int} (h : GoodD cs n ds) {v : Nat} (hv : v < n) : ∀ k j, k ≤ j → j < (domL (at0 ds v)).length → hasB (at0 (shvI cs v (domL (at0 ds v)) ds k) v) (at0 (domL (at0 ds v)) j).toNat = true
  | 0, j, _, hj => domL_at _ hj
  | k + 1, j, hk, hj => by
    have ih := shvI_has h hv k j (by omega) hj
    obtain ⟨h1, h2⟩ := shvI_ok h hv (at0 ds v) k (by omega)
    rw [shvI]
    split
    · obtain ⟨a, ha, ha6⟩ := domL_val (at0 ds v) (k := k) (by omega)
      obtain ⟨b, hb, hb6⟩ := domL_val (at0 ds v) hj
      have hlt := domL_lt (at0 ds v) (i := k) (j := j) (by omega) hj
      rw [ha, hb, Int.toNat_natCast, Int.toNat_natCast]
      rw [hb, Int.toNat_natCast] at ih
      have hd := h1.2.1 v (by rw [h1.1]; exact hv)
      rw [at0_set _ _ _ _ (by rw [h1.1]; exact hv), if_pos rfl, delV_has hd.1 hd.2 ha6 hb6, ih]
      have : b ≠ a := by omega
      simpa using this
    · exact ih
def itr (f : List Int → List Int) : Nat → List Int → List Int
  | 0, x => x
  | k + 1, x => f (itr f k x)
theorem itr_in (f : List Int → List Int) (x : List Int) : ∀ k, itr f k (f x) = itr f (k + 1) x
  | 0 => rfl
  | k + 1 => by rw [itr, itr_in f x k]; rfl
theorem itr_stay {f : List Int → List Int} {x y : List Int} {i : Nat} (h : itr f i x = y) (hy : f y = y) : ∀ m, itr f (i + m) x = y
  | 0 => h
  | m + 1 => by rw [← Nat.add_assoc, itr, itr_stay h hy m, hy]
theorem itr_one {f : List Int → List Int} {x y z : List Int} {i j : Nat} (h1 : itr f i x = y) (hy : f y = y) (h2 : itr f j x = z) (hz : f z = z) : y = z := by
  rw [← itr_stay h1 hy j, Nat.add_comm, itr_stay h2 hz i]
theorem fixL_orbit {st : List Int → List Int} {G : List Int → Prop} {n : Nat} (h : StOK st G n) : ∀ (k : Nat) (ds : List Int), G ds → sumL ds < k → ∃ j, G (itr st j ds) ∧ ((hasI (itr st j ds) 0 = true ∧ fixL st k ds = zer n) ∨ (hasI (itr st j ds) 0 = false ∧ st (itr st j ds) = itr st j ds ∧ fixL st k ds = itr st j ds))
  | 0, ds, hg, hs => by have := (sumL_bd ds (h.dom ds hg)).1; omega
  | k + 1, ds, hg, hs => by
    rw [fixL]
    cases h0 : hasI ds 0 with
    | true => rw [if_pos rfl, h.len ds hg]; exact ⟨0, hg, .inl ⟨h0, rfl⟩⟩
    | false =>
      rw [if_neg (by simp)]
      by_cases he : st ds = ds
      · rw [if_pos he]; exact ⟨0, hg, .inr ⟨h0, he, rfl⟩⟩
      · rw [if_neg he]
        have := SubD.sum (h.dom _ (h.stay ds hg)) (h.dom ds hg) (h.sub ds hg) he
        obtain ⟨j, hj⟩ := fixL_orbit h k (st ds) (h.stay ds hg) (by omega)
        rw [itr_in] at hj
        exact ⟨j + 1, hj⟩
/-- A round of the program, and one of the reference. -/
def shvP (cs : List Con) (ds : List Int) : List Int := shvL cs (propL cs ds)
def shvR (cs : List Con) (ds : List Int) : List Int := propL cs (shvL cs (propL cs ds))
def shaveL (cs : List Con) (ds : List Int) : List Int := fixL (shvP cs) 300 ds
section
variable {cs : List Con} {n : Nat} (h4 : n ≤ 4) (h0 : 0 < n)
include h4
theorem shvP_ok : StOK (shvP cs) (GoodD cs n) n := by
  refine ⟨fun _ h => h.2.1, fun _ h => h.1, fun ds h => ?_, fun ds h => ?_⟩
  · have hr := propL_R h h4
    exact (shvL_ok hr.good).2.trans hr.sub
  · exact (shvL_ok (propL_R h h4).good).1
theorem shvR_ok : StOK (shvR cs) (GoodD cs n) n := by
  refine ⟨fun _ h => h.2.1, fun _ h => h.1, fun ds h => ?_, fun ds h => ?_⟩
  · have hs := (shvP_ok h4).stay ds h
    exact (propL_R hs h4).sub.trans ((shvP_ok h4).sub ds h)
  · exact (propL_R ((shvP_ok h4).stay ds h) h4).good
theorem itr_good {ds : List Int} (h : GoodD cs n ds) : ∀ k, GoodD cs n (itr (shvP cs) k ds)
  | 0 => h
  | k + 1 => (shvP_ok h4).stay _ (itr_good h k)
include h0
theorem itr_R {ds : List Int} (h : GoodD cs n ds) : ∀ k, itr (shvR cs) (k + 1) ds = propL cs (itr (shvP cs) (k + 1) ds)
  | 0 => rfl
  | k + 1 => by
    rw [itr, itr_R h k]
    show propL cs (shvL cs (propL cs (propL cs _))) = propL cs (shvL cs (propL cs _))
    rw [propL_idem (itr_good h4 h (k + 1)) h4 h0]
omit h4 h0 in
theorem propL_of_empty {ds : List Int} (h : GoodD cs n ds) (he : hasI ds 0 = true) : propL cs ds = zer n := by
  unfold propL
  rw [show (300 : Nat) = 299 + 1 from rfl, fixL, if_pos he, h.1]
omit h4 h0 in
theorem shvL_zer {ds : List Int} (h : GoodD cs n ds) : shvL cs (zer n) = zer n := by
  obtain ⟨h1, h2⟩ := shvL_ok (h.zer)
  exact SubD.antisymm h1.2.1 (DomL.zer n) h2 (zer_sub h1.1)
/-- A domains' list that a round of the reference leaves, is what the program's shaving leaves. -/
theorem shave_eq {ds : List Int} (h : GoodD cs n ds) {j : Nat} {x : List Int} (hx : itr (shvR cs) j ds = x) (hr : shvR cs x = x) : x = shaveL cs ds := by
  have hsum : sumL ds < 300 := by have := (sumL_bd ds h.2.1).2; have := h.1; omega
  obtain ⟨i, hg, hc⟩ := fixL_orbit (shvP_ok (cs := cs) h4) 300 ds h hsum
  have hz : shvR cs (zer n) = zer n := by
    have e1 : propL cs (zer n) = zer n := propL_of_empty h.zer (hasI_zer h0)
    unfold shvR
    rw [e1, shvL_zer h, e1]
  rcases hc with ⟨he, hy⟩ | ⟨he, hs, hy⟩
  · unfold shaveL
    rw [hy]
    cases i with
    | zero =>
      refine (itr_one (i := 1) (j := j) (x := ds) (?_ : itr (shvR cs) 1 ds = zer n) hz hx hr).symm
      show propL cs (shvL cs (propL cs ds)) = _
      rw [propL_of_empty h he, shvL_zer h]
      exact propL_of_empty h.zer (hasI_zer h0)
    | succ i => exact (itr_one (by rw [itr_R h4 h0 h i, propL_of_empty hg he]) hz hx hr).symm
  · unfold shaveL
    rw [hy]
    generalize hyy : itr (shvP cs) i ds = y at hs hg
    have hR := propL_R hg h4
    have hp : propL cs y = y := by
      refine SubD.antisymm hR.good.2.1 hg.2.1 hR.sub ?_
      have h2 := (shvL_ok hR.good).2
      have h3 : shvL cs (propL cs y) = y := hs
      rwa [h3] at h2
    have hry : shvR cs y = y := by
      have h3 : shvL cs (propL cs y) = y := hs
      unfold shvR
      rw [h3, hp]
    cases i with
    | zero => exact (itr_one (i := 0) (show itr (shvR cs) 0 ds = y from hyy) hry hx hr).symm
    | succ i => exact (itr_one (by rw [itr_R h4 h0 h i, hyy, hp]) hry hx hr).symm
end
end Go.Proofs.YtjpdebgejlfeaaaDoor
/- propagate of the program. -/
namespace Go.Proofs.YtjpdebgejlfeaaaDoor
open Go.RowKit

/-- v is a model that reads as these domains and constraints. -/
def SMod (w : World) (v : Value) (ds : List Int) (cs : List Con) : Prop := ∃ vd vc, v = .agg #[vd, vc] ∧ SInts w vd ds ∧ SCons w vc cs
theorem SMod.ext {w w' : World} {v : Value} {ds : List Int} {cs : List Con} (h : SMod w v ds cs) (hx : Ext w w') : SMod w' v ds cs := by
  obtain ⟨vd, vc, h1, h2, h3⟩ := h
  exact ⟨vd, vc, h1, h2.ext hx, h3.ext hx⟩
set_option maxRecDepth 100000 in
set_option maxHeartbeats 4000000 in
theorem filtered_any (v vd : Value) (D ds : List Int) (cs : List Con) (w : World) (hM : SMod w v D cs) (hD : SInts w vd ds) (hG : GoodD cs ds.length ds) :
    Calls Tryd.prog 58 #[v, vd] w (OwnOr vd ds (stepL cs ds) w) := by
  obtain ⟨ve, vc, rfl, hE, hC⟩ := hM
  have hD0 := hide hD
  have HG := hide hG
  obtain ⟨Ae, ce, rfl, -, hle⟩ := hE.form
  obtain ⟨Ac, cc, rfl, -, hlc⟩ := hC.form
  obtain ⟨Ad, cd, rfl, -, hld⟩ := hD.form
  have hx0 := (Ext.refl w).alloc (.cells #[.slice Ae D.length ce, .slice Ac cs.length cc] 38)
  have HX0 := hide hx0
  have hC0 := hide (hC.ext hx0)
  have hDX := hide (hD.ext hx0)
  clear hE hC hD hG hx0
  go_enter Tryd.func58, Tryd.ntmps58
  go_wp2
  go_loopw [1, 10] (fun d i wr => ∃ k : Nat, i = .int .i64 k ∧ k ≤ cs.length ∧ Ext w wr ∧ Ext (w.alloc (.cells #[.slice Ae D.length ce, .slice Ac cs.length cc] 38)) wr ∧ SInts wr d (stepK cs ds k) ∧ ((k = 0 ∧ d = .slice Ad ds.length cd) ∨ OwnRes (stepK cs ds k) w (.returned d) wr)) (fun _ i _ => cs.length - (intOf i).toNat)
  case atStart => exact ⟨0, rfl, Nat.zero_le _, HX0.out, Ext.refl _, hDX.out, .inl ⟨rfl, rfl⟩⟩
  case round =>
    obtain ⟨k, rfl, hk, hx, hx1, hS, hO⟩ := hrel
    have HX := hide hx
    have HX1 := hide hx1
    have HS := hide hS
    obtain ⟨Gk, Sk⟩ := HG.out.stepK k hk
    have hkl : (stepK cs ds k).length = ds.length := Gk.1
    obtain ⟨A, c, rfl, -, hlk⟩ := hS.form
    have HO := hide hO
    have HGK := hide Gk
    have HKL := hide hkl
    clear hx hS hO Gk Sk
    by_cases hlt : k < cs.length
    · have hkI : (k : Int) < cs.length := by omega
      obtain ⟨b, off, rfl, hbl, vv, va, vr, f1, f2, f3, f4, f5, s1, s2, s3⟩ := (hC0.out.ext hx1).at_ hlt
      obtain ⟨Av, cv, rfl, -, -⟩ := s1.form
      obtain ⟨Aa, ca, rfl, -, -⟩ := s2.form
      obtain ⟨Ar, cr, rfl, -, -⟩ := s3.form
      have HC := hide (show SCon wr (.agg #[.int .i64 (con0 cs k).kk, .slice Av (con0 cs k).vars.length cv, .slice Aa (con0 cs k).args.length ca, .int .i64 (con0 cs k).bound, .slice Ar (con0 cs k).rows.length cr]) (con0 cs k) from ⟨_, _, _, rfl, s1, s2, s3⟩)
      have HV := hide (show vCon (con0 cs k) (stepK cs ds k).length = true by rw [HKL.out]; exact HG.out.2.2 k hlt)
      clear s1 s2 s3 hx1 hkl
      go_wp2_with fail
      have hxa := (Ext.refl wr).alloc (.cells #[.int .i64 (con0 cs k).kk, .slice Av (con0 cs k).vars.length cv, .slice Aa (con0 cs k).args.length ca, .int .i64 (con0 cs k).bound, .slice Ar (con0 cs k).rows.length cr] 60)
      refine (filter_any _ _ (con0 cs k) (stepK cs ds k) _ (HC.out.ext hxa) (HS.out.ext hxa) HV.out HGK.out.2.1).mono ?_
      rintro e w2 ⟨A2, c2, b2, m2, g2, rfl, hc2, hb2, hn2, ho2, hx2⟩
      have hxx := hxa.trans hx2
      have HXX := hide hxx
      obtain ⟨Gn, Sn⟩ := HGK.out.filt (i := k) hlt
      have HK1 := hide (show stepK cs ds (k + 1) = filtL (con0 cs k) (stepK cs ds k) from rfl)
      have HOR := hide (show OwnRes (stepK cs ds (k + 1)) w (.returned (.slice A2 (filtL (con0 cs k) (stepK cs ds k)).length c2)) w2 from ⟨A2, c2, b2, m2, g2, rfl, hc2, hb2, Nat.le_trans (HX.out.trans hxa).size hn2, ho2, HX.out.trans hxx⟩)
      have HSN := hide (show SInts w2 (.slice A2 (filtL (con0 cs k) (stepK cs ds k)).length c2) (stepK cs ds (k + 1)) from SInts.own hc2 hb2 ho2 (fun i hi => by have := Gn.2.1 i hi; unfold I64; omega))
      obtain ⟨L, hL⟩ : ∃ L, L = (filtL (con0 cs k) (stepK cs ds k)).length := ⟨_, rfl⟩
      rw [← hL] at HOR HSN ⊢
      clear hxa hx2 hxx ho2 hn2 hb2 hc2 Gn Sn hL
      go_wp2
      go_roundw
      case rel => exact ⟨k + 1, by go_num, by omega, HX.out.trans HXX.out, HX1.out.trans HXX.out, HSN.out, .inr HOR.out⟩
      case measure => simp [intOf]; omega
    · obtain rfl : k = cs.length := by omega
      have hkI : ¬ ((cs.length : Int) < cs.length) := by omega
      have HQ := hide (show OwnOr (.slice Ad ds.length cd) ds (stepL cs ds) w (.returned (.slice A (stepK cs ds cs.length).length c)) wr from by
        rcases HO.out with ⟨h0, h1⟩ | h1
        · refine .inr ⟨by rw [h1], ?_, HX.out⟩
          unfold stepL; rw [h0]; rfl
        · exact .inl h1)
      obtain ⟨L, hL⟩ : ∃ L, L = (stepK cs ds cs.length).length := ⟨_, rfl⟩
      rw [← hL] at HQ ⊢
      clear hL
      go_wp2
      go_ret
      exact HQ.out
set_option maxHeartbeats 4000000 in
theorem propagate_any (v vd : Value) (D ds : List Int) (cs : List Con) (w : World) (hM : SMod w v D cs) (hD : SInts w vd ds) (hG : GoodD cs ds.length ds) (h4 : ds.length ≤ 4) (h1 : 0 < ds.length) :
    Calls Tryd.prog 35 #[v, vd] w (OwnRes (propL cs ds) w) := by
  have hM0 := hide hM
  have hD0 := hide hD
  have HG := hide hG
  obtain ⟨ve, vc, rfl, hE, hC⟩ := hM
  obtain ⟨Ae, ce, rfl, -, hle⟩ := hE.form
  obtain ⟨Ac, cc, rfl, -, hlc⟩ := hC.form
  obtain ⟨Ad, cd, rfl, -, hld⟩ := hD.form
  have hx0 := (Ext.refl w).alloc (.cells #[.slice Ae D.length ce, .slice Ac cs.length cc] 38)
  have HX0 := hide hx0
  clear hE hC hD hG hx0
  go_enter Tryd.func35, Tryd.ntmps35
  go_wp2_with fail
  refine (fixpointB_any _ ds 58 (.agg #[.slice Ae D.length ce, .slice Ac cs.length cc]) (stepL cs) (GoodD cs ds.length) _ (hD0.out.ext HX0.out) HG.out (stepOK cs ds.length) h4 h1 (fun args W => callFunc_body Tryd.func58 (by kernel_rfl) (by kernel_rfl) args W)
    (hide fun now v' W hW hS hgn => filtered_any _ v' D now cs W (hM0.out.ext (HX0.out.trans hW)) hS (by have h := hgn; rw [← h.1] at h; exact h))).mono ?_
  rintro e w2 hres
  obtain ⟨A2, c2, b2, m2, g2, rfl, hc2, hb2, hn2, ho2, hx2⟩ := hres
  have HR := hide (show OwnRes (propL cs ds) w (.returned (.slice A2 (fixL (stepL cs) 300 ds).length c2)) w2 from ⟨A2, c2, b2, m2, g2, rfl, hc2, hb2, Nat.le_trans HX0.out.size hn2, ho2, HX0.out.trans hx2⟩)
  obtain ⟨L, hL⟩ : ∃ L, L = (fixL (stepL cs) 300 ds).length := ⟨_, rfl⟩
  rw [← hL] at HR ⊢
  clear hc2 hb2 hn2 ho2 hx2 hL
  go_wp2
  go_ret
  exact HR.out
theorem vMod_good {ds : List Int} {cs : List Con} (h : vMod ds cs = true) : GoodD cs ds.length ds ∧ 0 < ds.length ∧ ds.length ≤ 4 := by
  simp only [vMod, Bool.and_eq_true, Bool.not_eq_true', inR, decide_eq_true_eq] at h
  obtain ⟨⟨⟨h1, h2⟩, h3⟩, h4, h5⟩ := h
  refine ⟨⟨rfl, DomL.of h3, fun i hi => ?_⟩, by omega, by omega⟩
  have := anyB_false.1 h5 i hi
  simpa using this
end Go.Proofs.YtjpdebgejlfeaaaDoor
