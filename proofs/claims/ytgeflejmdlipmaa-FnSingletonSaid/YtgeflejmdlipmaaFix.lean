/- The fixpoint: plain Lean, and the program's walk of it. -/
import Derived.Test.YtgeflejmdlipmaaFilt
import Derived.Test.YtgeflejmdlipmaaFitK
import Derived.Deep.LoopGhost
namespace Go.Proofs.Ytgeflejmdlipmaa
open Go.RowKit

/-- The first k constraints in turn. -/
def stepK (cs : List Con) (ds : List Int) : Nat → List Int
  | 0 => ds
  | k + 1 => filtL (con0 cs k) (stepK cs ds k)
def stepL (cs : List Con) (ds : List Int) : List Int := stepK cs ds cs.length
/-- Applied until nothing changes; all are empty if one is. -/
def fixL (st : List Int → List Int) : Nat → List Int → List Int
  | 0, ds => ds
  | n + 1, ds => if hasI ds 0 = true then zer ds.length else if st ds = ds then ds else fixL st n (st ds)
def propL (cs : List Con) (ds : List Int) : List Int := fixL (stepL cs) 300 ds
/-- A step that makes domains smaller. -/
structure StOK (st : List Int → List Int) (G : List Int → Prop) (n : Nat) : Prop where
  dom : ∀ ds, G ds → DomL ds
  len : ∀ ds, G ds → ds.length = n
  sub : ∀ ds, G ds → SubD (st ds) ds
  stay : ∀ ds, G ds → G (st ds)
theorem StOK.i64 {st : List Int → List Int} {G : List Int → Prop} {n : Nat} (h : StOK st G n) (ds : List Int) (hg : G ds) : ∀ i, i < ds.length → I64 (at0 ds i) := fun i hi => by
  have := h.dom ds hg i hi; unfold I64; omega
/-- Domains of n variables, all constraints valid. -/
def GoodD (cs : List Con) (n : Nat) (ds : List Int) : Prop := ds.length = n ∧ DomL ds ∧ ∀ i, i < cs.length → vCon (con0 cs i) n = true
theorem GoodD.filt {cs : List Con} {n : Nat} {ds : List Int} (h : GoodD cs n ds) {i : Nat} (hi : i < cs.length) : GoodD cs n (filtL (con0 cs i) ds) ∧ SubD (filtL (con0 cs i) ds) ds := by
  obtain ⟨h1, h2, h3⟩ := h
  have hv : VarOK (con0 cs i).vars ds.length := by rw [h1]; exact vCon_var (h3 i hi)
  exact ⟨⟨(filtP_len _ _ _).trans h1, filtP_dom hv h2, h3⟩, filtP_sub hv⟩
theorem GoodD.stepK {cs : List Con} {n : Nat} {ds : List Int} (h : GoodD cs n ds) : ∀ k, k ≤ cs.length → GoodD cs n (stepK cs ds k) ∧ SubD (stepK cs ds k) ds
  | 0, _ => ⟨h, SubD.refl _⟩
  | k + 1, hk => by
    obtain ⟨h1, h2⟩ := GoodD.stepK h k (by omega)
    obtain ⟨h3, h4⟩ := h1.filt (i := k) (by omega)
    exact ⟨h3, h4.trans h2⟩
theorem stepOK (cs : List Con) (n : Nat) : StOK (stepL cs) (GoodD cs n) n :=
  ⟨fun _ h => h.2.1, fun _ h => h.1, fun _ h => (h.stepK _ (Nat.le_refl _)).2, fun _ h => (h.stepK _ (Nat.le_refl _)).1⟩
/-- A slice of its own, or the one that came. -/
def OwnOr (v : Value) (xs ys : List Int) (w : World) (e : Ending) (w' : World) : Prop := OwnRes ys w e w' ∨ (e = .returned v ∧ ys = xs ∧ Ext w w')
theorem OwnRes.grow {xs : List Int} {w W W' : World} {e : Ending} (h : OwnRes xs w e W) (hx : Ext W W') : OwnRes xs w e W' := by
  obtain ⟨A, c, b, m, f, h1, h2, h3, h4, h5, h6⟩ := h
  exact ⟨A, c, b, m, f, h1, h2, h3, h4, h5.ext hx, h6.trans hx⟩
set_option maxRecDepth 100000 in
set_option maxHeartbeats 4000000 in
theorem fixpointB_any (vd : Value) (ds : List Int) (gf : Nat) (fv : Value) (st : List Int → List Int) (G : List Int → Prop) (w : World) (hD : SInts w vd ds) (hG : G ds) (hst : StOK st G ds.length) (h4 : ds.length ≤ 4) (h1 : 0 < ds.length)
    (hg : ∀ args W, (callFunc gf args).run Try.prog W = .ok (.enter gf args) W) (hs : Hid (∀ now v' W, Ext w W → SInts W v' now → G now → Calls Try.prog gf #[fv, v'] W (OwnOr v' now (st now) W))) :
    Calls Try.prog 55 #[vd, .func (.func gf) #[fv] #[]] w (OwnRes (fixL st 300 ds) w) := by
  have hD0 := hide hD
  have HST := hide hst
  have HGD := hide hG
  obtain ⟨Ad, cd, rfl, -, hld⟩ := hD.form
  clear hD hst hG
  go_enter Try.func55, Try.ntmps55
  go_wp2_with fail
  refine (copied_any _ ds _ hD0.out).mono ?_
  rintro e w1 ⟨A1, c1, b1, m1, f1, rfl, hc1, hb1, hn1, ho1, hx1⟩
  have HO := hide (show OwnRes ds w (.returned (.slice A1 ds.length c1)) w1 from ⟨A1, c1, b1, m1, f1, rfl, hc1, hb1, hn1, ho1, hx1⟩)
  obtain ⟨n, hn⟩ : ∃ n, n = ds.length := ⟨_, rfl⟩
  have HN := hide hn
  rw [← hn] at h4 h1 HO ⊢
  clear hn ho1 hx1 hb1 hn1
  go_wp2
  go_loopg [5] 300 (fun gk v wr => ∃ now : List Int, now.length = n ∧ OwnRes now w (.returned v) wr ∧ G now ∧ fixL st gk now = fixL st 300 ds ∧ sumL now < gk)
  case atStart => exact ⟨ds, HN.out.symm, HO.out, HGD.out, rfl, by have := sumL_bd ds (HST.out.dom ds HGD.out); have := HN.out; omega⟩
  case round =>
    obtain ⟨now, hnl, ⟨A, cc, b, m, f, hv, hc, hb, hnb, ho, hx⟩, hgn, hR, hsum⟩ := hrel
    injection hv with hv
    subst hv
    have HS := hide (SInts.own hc hb ho (HST.out.i64 now hgn))
    have HOW := hide (show OwnRes now w (.returned (.slice A now.length cc)) wr from ⟨A, cc, b, m, f, rfl, hc, hb, hnb, ho, hx⟩)
    have HGN := hide hgn
    have HR := hide hR
    have HX := hide hx
    have HNL := hide hnl
    have hsb := (sumL_bd now (HST.out.dom now hgn)).1
    obtain ⟨k, rfl⟩ : ∃ k, gk = k + 1 := ⟨gk - 1, by omega⟩
    rw [hnl] at HS HOW ⊢
    clear hgn hR hx ho hnb hnl hc
    cases h0 : hasI now 0 with
    | true =>
      have H0 := hide h0
      have HZ := hide (show fixL st 300 ds = zer n by rw [← HR.out, fixL, if_pos h0, HNL.out])
      clear h0
      go_wp2_with (first | (go_at_call 33; refine (Contains_any _ now _ _ HS.out).mono ?_; rintro e w' ⟨rfl, rfl⟩; rw [H0.out]) | (at_make; go_must (refine wpList_make_gen _ rfl _ _ 23 rfl 3 (.int .i64 0) 1 8 Try.underlying23 Try.infoI .i64 .i64 n rfl rfl (by omega) (by omega) (fun _ => .int .i64 0) (fun i _ => by simp [Value.cells, Nat.mod_one]) ?_); intro w3 hrow3 hsz3 hx3; rw [Nat.mul_one] at hrow3; have HROW := hide hrow3; have HX3 := hide hx3; clear hrow3 hsz3 hx3))
      go_ret
      rw [HZ.out]
      exact (show OwnRes (zer n) w (.returned (.slice (some ⟨wr.heap.size, 0, none⟩) n n)) w3 from ⟨some ⟨wr.heap.size, 0, none⟩, n, wr.heap.size, n, _, by rw [zer_len], by rw [zer_len]; exact Nat.le_refl _, by rw [zer_len]; omega, HX.out.size, fun _ => ⟨rfl, HROW.out, by rw [zer_len]; exact Nat.le_refl _, fun i _ => by rw [zer_at]⟩, HX.out.trans HX3.out⟩)
    | false =>
      have H0 := hide h0
      clear h0
      go_wp2_with (go_at_call 33; refine (Contains_any _ now _ _ HS.out).mono ?_; rintro e w' ⟨rfl, rfl⟩; rw [H0.out])
      refine (hs.out now _ _ HX.out HS.out HGN.out).mono ?_
      rintro e w3 (hown | ⟨rfl, heq, hx3⟩)
      · obtain ⟨A3, c3, b3, m3, f3, rfl, hc3, hb3, hn3, ho3, hx3⟩ := hown
        have hl3 : (st now).length = n := by rw [(HST.out.sub now HGN.out).len, HNL.out]
        have HS3 := hide (SInts.own hc3 hb3 ho3 (HST.out.i64 _ (HST.out.stay now HGN.out)))
        have HO3 := hide (show OwnRes (st now) w (.returned (.slice A3 (st now).length c3)) w3 from ⟨A3, c3, b3, m3, f3, rfl, hc3, hb3, Nat.le_trans HX.out.size hn3, ho3, HX.out.trans hx3⟩)
        have HOW3 := hide (HOW.out.grow hx3)
        have HS2 := hide (HS.out.ext hx3)
        have HX3 := hide hx3
        have HL3 := hide hl3
        rw [hl3] at HS3 HO3 ⊢
        clear hx3 ho3 hn3 hb3 hc3 hl3
        go_wp2_with fail
        refine (EqualI_any _ _ (st now) now _ HS3.out HS2.out).mono ?_
        rintro e w4 ⟨rfl, hx4⟩
        have HX4 := hide hx4
        clear hx4
        by_cases he : st now = now
        · have HE := hide (show fixL st 300 ds = now by rw [← HR.out, fixL, if_neg (by rw [H0.out]; simp), if_pos he])
          rw [decide_eq_true he]
          clear he
          go_wp2
          go_ret
          rw [HE.out]
          exact HOW3.out.grow HX4.out
        · have HE := hide (show fixL st 300 ds = fixL st k (st now) by rw [← HR.out, fixL, if_neg (by rw [H0.out]; simp), if_neg he])
          have hlt := SubD.sum (HST.out.dom _ (HST.out.stay now HGN.out)) (HST.out.dom now HGN.out) (HST.out.sub now HGN.out) he
          rw [decide_eq_false he]
          have HLT := hide hlt
          clear he hlt
          go_wp2
          go_roundg k
          case measure => omega
          case rel => exact ⟨st now, HL3.out, HO3.out.grow HX4.out, HST.out.stay now HGN.out, HE.out.symm, by have := HLT.out; omega⟩
      · have HOW3 := hide (HOW.out.grow hx3)
        have HS2 := hide (HS.out.ext hx3)
        have HE := hide (show fixL st 300 ds = now by rw [← HR.out, fixL, if_neg (by rw [H0.out]; simp), if_pos heq])
        clear hx3 heq
        go_wp2_with fail
        refine (EqualI_any _ _ now now _ HS2.out HS2.out).mono ?_
        rintro e w4 ⟨rfl, hx4⟩
        have HX4 := hide hx4
        have htt : decide (now = now) = true := by simp
        rw [htt]
        clear hx4 htt
        go_wp2
        go_ret
        rw [HE.out]
        exact HOW3.out.grow HX4.out
set_option maxRecDepth 100000 in
set_option maxHeartbeats 4000000 in
theorem fixpointC_any (vd : Value) (ds : List Int) (gf : Nat) (caps : Array Value) (st : List Int → List Int) (G : List Int → Prop) (w : World) (hD : SInts w vd ds) (hG : G ds) (hst : StOK st G ds.length) (h4 : ds.length ≤ 4) (h1 : 0 < ds.length)
    (hg : ∀ args W, (callFunc gf args).run Try.prog W = .ok (.enter gf args) W) (hs : Hid (∀ now v' W, Ext w W → SInts W v' now → G now → Calls Try.prog gf (#[v'] ++ caps) W (OwnOr v' now (st now) W))) :
    Calls Try.prog 55 #[vd, .func (.func gf) #[] caps] w (OwnRes (fixL st 300 ds) w) := by
  have hD0 := hide hD
  have HST := hide hst
  have HGD := hide hG
  obtain ⟨Ad, cd, rfl, -, hld⟩ := hD.form
  clear hD hst hG
  go_enter Try.func55, Try.ntmps55
  go_wp2_with fail
  refine (copied_any _ ds _ hD0.out).mono ?_
  rintro e w1 ⟨A1, c1, b1, m1, f1, rfl, hc1, hb1, hn1, ho1, hx1⟩
  have HO := hide (show OwnRes ds w (.returned (.slice A1 ds.length c1)) w1 from ⟨A1, c1, b1, m1, f1, rfl, hc1, hb1, hn1, ho1, hx1⟩)
  obtain ⟨n, hn⟩ : ∃ n, n = ds.length := ⟨_, rfl⟩
  have HN := hide hn
  rw [← hn] at h4 h1 HO ⊢
  clear hn ho1 hx1 hb1 hn1
  go_wp2
  go_loopg [5] 300 (fun gk v wr => ∃ now : List Int, now.length = n ∧ OwnRes now w (.returned v) wr ∧ G now ∧ fixL st gk now = fixL st 300 ds ∧ sumL now < gk)
  case atStart => exact ⟨ds, HN.out.symm, HO.out, HGD.out, rfl, by have := sumL_bd ds (HST.out.dom ds HGD.out); have := HN.out; omega⟩
  case round =>
    obtain ⟨now, hnl, ⟨A, cc, b, m, f, hv, hc, hb, hnb, ho, hx⟩, hgn, hR, hsum⟩ := hrel
    injection hv with hv
    subst hv
    have HS := hide (SInts.own hc hb ho (HST.out.i64 now hgn))
    have HOW := hide (show OwnRes now w (.returned (.slice A now.length cc)) wr from ⟨A, cc, b, m, f, rfl, hc, hb, hnb, ho, hx⟩)
    have HGN := hide hgn
    have HR := hide hR
    have HX := hide hx
    have HNL := hide hnl
    have hsb := (sumL_bd now (HST.out.dom now hgn)).1
    obtain ⟨k, rfl⟩ : ∃ k, gk = k + 1 := ⟨gk - 1, by omega⟩
    rw [hnl] at HS HOW ⊢
    clear hgn hR hx ho hnb hnl hc
    cases h0 : hasI now 0 with
    | true =>
      have H0 := hide h0
      have HZ := hide (show fixL st 300 ds = zer n by rw [← HR.out, fixL, if_pos h0, HNL.out])
      clear h0
      go_wp2_with (first | (go_at_call 33; refine (Contains_any _ now _ _ HS.out).mono ?_; rintro e w' ⟨rfl, rfl⟩; rw [H0.out]) | (at_make; go_must (refine wpList_make_gen _ rfl _ _ 23 rfl 3 (.int .i64 0) 1 8 Try.underlying23 Try.infoI .i64 .i64 n rfl rfl (by omega) (by omega) (fun _ => .int .i64 0) (fun i _ => by simp [Value.cells, Nat.mod_one]) ?_); intro w3 hrow3 hsz3 hx3; rw [Nat.mul_one] at hrow3; have HROW := hide hrow3; have HX3 := hide hx3; clear hrow3 hsz3 hx3))
      go_ret
      rw [HZ.out]
      exact (show OwnRes (zer n) w (.returned (.slice (some ⟨wr.heap.size, 0, none⟩) n n)) w3 from ⟨some ⟨wr.heap.size, 0, none⟩, n, wr.heap.size, n, _, by rw [zer_len], by rw [zer_len]; exact Nat.le_refl _, by rw [zer_len]; omega, HX.out.size, fun _ => ⟨rfl, HROW.out, by rw [zer_len]; exact Nat.le_refl _, fun i _ => by rw [zer_at]⟩, HX.out.trans HX3.out⟩)
    | false =>
      have H0 := hide h0
      clear h0
      go_wp2_with (go_at_call 33; refine (Contains_any _ now _ _ HS.out).mono ?_; rintro e w' ⟨rfl, rfl⟩; rw [H0.out])
      refine (hs.out now _ _ HX.out HS.out HGN.out).mono ?_
      rintro e w3 (hown | ⟨rfl, heq, hx3⟩)
      · obtain ⟨A3, c3, b3, m3, f3, rfl, hc3, hb3, hn3, ho3, hx3⟩ := hown
        have hl3 : (st now).length = n := by rw [(HST.out.sub now HGN.out).len, HNL.out]
        have HS3 := hide (SInts.own hc3 hb3 ho3 (HST.out.i64 _ (HST.out.stay now HGN.out)))
        have HO3 := hide (show OwnRes (st now) w (.returned (.slice A3 (st now).length c3)) w3 from ⟨A3, c3, b3, m3, f3, rfl, hc3, hb3, Nat.le_trans HX.out.size hn3, ho3, HX.out.trans hx3⟩)
        have HOW3 := hide (HOW.out.grow hx3)
        have HS2 := hide (HS.out.ext hx3)
        have HX3 := hide hx3
        have HL3 := hide hl3
        rw [hl3] at HS3 HO3 ⊢
        clear hx3 ho3 hn3 hb3 hc3 hl3
        go_wp2_with fail
        refine (EqualI_any _ _ (st now) now _ HS3.out HS2.out).mono ?_
        rintro e w4 ⟨rfl, hx4⟩
        have HX4 := hide hx4
        clear hx4
        by_cases he : st now = now
        · have HE := hide (show fixL st 300 ds = now by rw [← HR.out, fixL, if_neg (by rw [H0.out]; simp), if_pos he])
          rw [decide_eq_true he]
          clear he
          go_wp2
          go_ret
          rw [HE.out]
          exact HOW3.out.grow HX4.out
        · have HE := hide (show fixL st 300 ds = fixL st k (st now) by rw [← HR.out, fixL, if_neg (by rw [H0.out]; simp), if_neg he])
          have hlt := SubD.sum (HST.out.dom _ (HST.out.stay now HGN.out)) (HST.out.dom now HGN.out) (HST.out.sub now HGN.out) he
          rw [decide_eq_false he]
          have HLT := hide hlt
          clear he hlt
          go_wp2
          go_roundg k
          case measure => omega
          case rel => exact ⟨st now, HL3.out, HO3.out.grow HX4.out, HST.out.stay now HGN.out, HE.out.symm, by have := HLT.out; omega⟩
      · have HOW3 := hide (HOW.out.grow hx3)
        have HS2 := hide (HS.out.ext hx3)
        have HE := hide (show fixL st 300 ds = now by rw [← HR.out, fixL, if_neg (by rw [H0.out]; simp), if_pos heq])
        clear hx3 heq
        go_wp2_with fail
        refine (EqualI_any _ _ now now _ HS2.out HS2.out).mono ?_
        rintro e w4 ⟨rfl, hx4⟩
        have HX4 := hide hx4
        have htt : decide (now = now) = true := by simp
        rw [htt]
        clear hx4 htt
        go_wp2
        go_ret
        rw [HE.out]
        exact HOW3.out.grow HX4.out
end Go.Proofs.Ytgeflejmdlipmaa
