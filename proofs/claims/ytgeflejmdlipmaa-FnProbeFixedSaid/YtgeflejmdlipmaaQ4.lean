/- The fixpoint: plain Lean, and the program's walk of it. -/
import Derived.Test.YtgeflejmdlipmaaFilt
import Derived.Test.YtgeflejmdlipmaaFitK
import Derived.Deep.LoopGhost
namespace Go.Proofs.Ytgeflejmdlipmaa
open Go.RowKit

/-- The first k constraints in turn. -/
def stepK (cs : List Con) (ds : List Int) : Nat → List Int
  | 0 => ds
  | k + 1 => filtL (con0 cs k) (stepK cs ds k)
def stepL (cs : List Con) (ds : List Int) : List Int := stepK cs ds cs.length
/-- Applied until nothing changes; all are empty if one is. -/
def fixL (st : List Int → List Int) : Nat → List Int → List Int
  | 0, ds => ds
  | n + 1, ds => if hasI ds 0 = true then zer ds.length else if st ds = ds then ds else fixL st n (st ds)
def propL (cs : List Con) (ds : List Int) : List Int := fixL (stepL cs) 300 ds
/-- A step that makes domains smaller. -/
structure StOK (st : List Int → List Int) (G : List Int → Prop) (n : Nat) : Prop where
  dom : ∀ ds, G ds → DomL ds
  len : ∀ ds, G ds → ds.length = n
  sub : ∀ ds, G ds → SubD (st ds) ds
  stay : ∀ ds, G ds → G (st ds)
theorem StOK.i64 {st : List Int → List Int} {G : List Int → Prop} {n : Nat} (h : StOK st G n) (ds : List Int) (hg : G ds) : ∀ i, i < ds.length → I64 (at0 ds i) := fun i hi => by
  have := h.dom ds hg i hi; unfold I64; omega
/-- Domains of n variables, all constraints valid. -/
def GoodD (cs : List Con) (n : Nat) (ds : List Int) : Prop := ds.length = n ∧ DomL ds ∧ ∀ i, i < cs.length → vCon (con0 cs i) n = true
theorem GoodD.filt {cs : List Con} {n : Nat} {ds : List Int} (h : GoodD cs n ds) {i : Nat} (hi : i < cs.length) : GoodD cs n (filtL (con0 cs i) ds) ∧ SubD (filtL (con0 cs i) ds) ds := by
  obtain ⟨h1, h2, h3⟩ := h
  have hv : VarOK (con0 cs i).vars ds.length := by rw [h1]; exact vCon_var (h3 i hi)
  exact ⟨⟨(filtP_len _ _ _).trans h1, filtP_dom hv h2, h3⟩, filtP_sub hv⟩
theorem GoodD.stepK {cs : List Con} {n : Nat} {ds : List Int} (h : GoodD cs n ds) : ∀ k, k ≤ cs.length → GoodD cs n (stepK cs ds k) ∧ SubD (stepK cs ds k) ds
  | 0, _ => ⟨h, SubD.refl _⟩
  | k + 1, hk => by
    obtain ⟨h1, h2⟩ := GoodD.stepK h k (by omega)
    obtain ⟨h3, h4⟩ := h1.filt (i := k) (by omega)
    exact ⟨h3, h4.trans h2⟩
theorem stepOK (cs : List Con) (n : Nat) : StOK (stepL cs) (GoodD cs n) n :=
  ⟨fun _ h => h.2.1, fun _ h => h.1, fun _ h => (h.stepK _ (Nat.le_refl _)).2, fun _ h => (h.stepK _ (Nat.le_refl _)).1⟩
/-- A slice of its own, or the one that came. -/
def OwnOr (v : Value) (xs ys : List Int) (w : World) (e : Ending) (w' : World) : Prop := OwnRes ys w e w' ∨ (e = .returned v ∧ ys = xs ∧ Ext w w')
theorem OwnRes.grow {xs : List Int} {w W W' : World} {e : Ending} (h : OwnRes xs w e W) (hx : Ext W W') : OwnRes xs w e W' := by
  obtain ⟨A, c, b, m, f, h1, h2, h3, h4, h5, h6⟩ := h
  exact ⟨A, c, b, m, f, h1, h2, h3, h4, h5.ext hx, h6.trans hx⟩
set_option maxRecDepth 100000 in
set_option maxHeartbeats 4000000 in
theorem fixpointB_any (vd : Value) (ds : List Int) (gf : Nat) (fv : Value) (st : List Int → List Int) (G : List Int → Prop) (w : World) (hD : SInts w vd ds) (hG : G ds) (hst : StOK st G ds.length) (h4 : ds.length ≤ 4) (h1 : 0 < ds.length)
    (hg : ∀ args W, (callFunc gf args).run Try.prog W = .ok (.enter gf args) W) (hs : Hid (∀ now v' W, Ext w W → SInts W v' now → G now → Calls Try.prog gf #[fv, v'] W (OwnOr v' now (st now) W))) :
    Calls Try.prog 55 #[vd, .func (.func gf) #[fv] #[]] w (OwnRes (fixL st 300 ds) w) := by
  have hD0 := hide hD
  have HST := hide hst
  have HGD := hide hG
  obtain ⟨Ad, cd, rfl, -, hld⟩ := hD.form
  clear hD hst hG
  go_enter Try.func55, Try.ntmps55
  go_wp2_with fail
  refine (copied_any _ ds _ hD0.out).mono ?_
  rintro e w1 ⟨A1, c1, b1, m1, f1, rfl, hc1, hb1, hn1, ho1, hx1⟩
  have HO := hide (show OwnRes ds w (.returned (.slice A1 ds.length c1)) w1 from ⟨A1, c1, b1, m1, f1, rfl, hc1, hb1, hn1, ho1, hx1⟩)
  obtain ⟨n, hn⟩ : ∃ n, n = ds.length := ⟨_, rfl⟩
  have HN := hide hn
  rw [← hn] at h4 h1 HO ⊢
  clear hn ho1 hx1 hb1 hn1
  go_wp2
  go_loopg [5] 300 (fun gk v wr => ∃ now : List Int, now.length = n ∧ OwnRes now w (.returned v) wr ∧ G now ∧ fixL st gk now = fixL st 300 ds ∧ sumL now < gk)
  case atStart => exact ⟨ds, HN.out.symm, HO.out, HGD.out, rfl, by have := sumL_bd ds (HST.out.dom ds HGD.out); have := HN.out; omega⟩
  case round =>
    obtain ⟨now, hnl, ⟨A, cc, b, m, f, hv, hc, hb, hnb, ho, hx⟩, hgn, hR, hsum⟩ := hrel
    injection hv with hv
    subst hv
    have HS := hide (SInts.own hc hb ho (HST.out.i64 now hgn))
    have HOW := hide (show OwnRes now w (.returned (.slice A now.length cc)) wr from ⟨A, cc, b, m, f, rfl, hc, hb, hnb, ho, hx⟩)
    have HGN := hide hgn
    have HR := hide hR
    have HX := hide hx
    have HNL := hide hnl
    have hsb := (sumL_bd now (HST.out.dom now hgn)).1
    obtain ⟨k, rfl⟩ : ∃ k, gk = k + 1 := ⟨gk - 1, by omega⟩
    rw [hnl] at HS HOW ⊢
    clear hgn hR hx ho hnb hnl hc
    cases h0 : hasI now 0 with
    | true =>
      have H0 := hide h0
      have HZ := hide (show fixL st 300 ds = zer n by rw [← HR.out, fixL, if_pos h0, HNL.out])
      clear h0
      go_wp2_with (first | (go_at_call 33; refine (Contains_any _ now _ _ HS.out).mono ?_; rintro e w' ⟨rfl, rfl⟩; rw [H0.out]) | (at_make; go_must (refine wpList_make_gen _ rfl _ _ 23 rfl 3 (.int .i64 0) 1 8 Try.underlying23 Try.infoI .i64 .i64 n rfl rfl (by omega) (by omega) (fun _ => .int .i64 0) (fun i _ => by simp [Value.cells, Nat.mod_one]) ?_); intro w3 hrow3 hsz3 hx3; rw [Nat.mul_one] at hrow3; have HROW := hide hrow3; have HX3 := hide hx3; clear hrow3 hsz3 hx3))
      go_ret
      rw [HZ.out]
      exact (show OwnRes (zer n) w (.returned (.slice (some ⟨wr.heap.size, 0, none⟩) n n)) w3 from ⟨some ⟨wr.heap.size, 0, none⟩, n, wr.heap.size, n, _, by rw [zer_len], by rw [zer_len]; exact Nat.le_refl _, by rw [zer_len]; omega, HX.out.size, fun _ => ⟨rfl, HROW.out, by rw [zer_len]; exact Nat.le_refl _, fun i _ => by rw [zer_at]⟩, HX.out.trans HX3.out⟩)
    | false =>
      have H0 := hide h0
      clear h0
      go_wp2_with (go_at_call 33; refine (Contains_any _ now _ _ HS.out).mono ?_; rintro e w' ⟨rfl, rfl⟩; rw [H0.out])
      refine (hs.out now _ _ HX.out HS.out HGN.out).mono ?_
      rintro e w3 (hown | ⟨rfl, heq, hx3⟩)
      · obtain ⟨A3, c3, b3, m3, f3, rfl, hc3, hb3, hn3, ho3, hx3⟩ := hown
        have hl3 : (st now).length = n := by rw [(HST.out.sub now HGN.out).len, HNL.out]
        have HS3 := hide (SInts.own hc3 hb3 ho3 (HST.out.i64 _ (HST.out.stay now HGN.out)))
        have HO3 := hide (show OwnRes (st now) w (.returned (.slice A3 (st now).length c3)) w3 from ⟨A3, c3, b3, m3, f3, rfl, hc3, hb3, Nat.le_trans HX.out.size hn3, ho3, HX.out.trans hx3⟩)
        have HOW3 := hide (HOW.out.grow hx3)
        have HS2 := hide (HS.out.ext hx3)
        have HX3 := hide hx3
        have HL3 := hide hl3
        rw [hl3] at HS3 HO3 ⊢
        clear hx3 ho3 hn3 hb3 hc3 hl3
        go_wp2_with fail
        refine (EqualI_any _ _ (st now) now _ HS3.out HS2.out).mono ?_
        rintro e w4 ⟨rfl, hx4⟩
        have HX4 := hide hx4
        clear hx4
        by_cases he : st now = now
        · have HE := hide (show fixL st 300 ds = now by rw [← HR.out, fixL, if_neg (by rw [H0.out]; simp), if_pos he])
          rw [decide_eq_true he]
          clear he
          go_wp2
          go_ret
          rw [HE.out]
          exact HOW3.out.grow HX4.out
        · have HE := hide (show fixL st 300 ds = fixL st k (st now) by rw [← HR.out, fixL, if_neg (by rw [H0.out]; simp), if_neg he])
          have hlt := SubD.sum (HST.out.dom _ (HST.out.stay now HGN.out)) (HST.out.dom now HGN.out) (HST.out.sub now HGN.out) he
          rw [decide_eq_false he]
          have HLT := hide hlt
          clear he hlt
          go_wp2
          go_roundg k
          case measure => omega
          case rel => exact ⟨st now, HL3.out, HO3.out.grow HX4.out, HST.out.stay now HGN.out, HE.out.symm, by have := HLT.out; omega⟩
      · have HOW3 := hide (HOW.out.grow hx3)
        have HS2 := hide (HS.out.ext hx3)
        have HE := hide (show fixL st 300 ds = now by rw [← HR.out, fixL, if_neg (by rw [H0.out]; simp), if_pos heq])
        clear hx3 heq
        go_wp2_with fail
        refine (EqualI_any _ _ now now _ HS2.out HS2.out).mono ?_
        rintro e w4 ⟨rfl, hx4⟩
        have HX4 := hide hx4
        have htt : decide (now = now) = true := by simp
        rw [htt]
        clear hx4 htt
        go_wp2
        go_ret
        rw [HE.out]
        exact HOW3.out.grow HX4.out
set_option maxRecDepth 100000 in
set_option maxHeartbeats 4000000 in
theorem fixpointC_any (vd : Value) (ds : List Int) (gf : Nat) (caps : Array Value) (st : List Int → List Int) (G : List Int → Prop) (w : World) (hD : SInts w vd ds) (hG : G ds) (hst : StOK st G ds.length) (h4 : ds.length ≤ 4) (h1 : 0 < ds.length)
    (hg : ∀ args W, (callFunc gf args).run Try.prog W = .ok (.enter gf args) W) (hs : Hid (∀ now v' W, Ext w W → SInts W v' now → G now → Calls Try.prog gf (#[v'] ++ caps) W (OwnOr v' now (st now) W))) :
    Calls Try.prog 55 #[vd, .func (.func gf) #[] caps] w (OwnRes (fixL st 300 ds) w) := by
  have hD0 := hide hD
  have HST := hide hst
  have HGD := hide hG
  obtain ⟨Ad, cd, rfl, -, hld⟩ := hD.form
  clear hD hst hG
  go_enter Try.func55, Try.ntmps55
  go_wp2_with fail
  refine (copied_any _ ds _ hD0.out).mono ?_
  rintro e w1 ⟨A1, c1, b1, m1, f1, rfl, hc1, hb1, hn1, ho1, hx1⟩
  have HO := hide (show OwnRes ds w (.returned (.slice A1 ds.length c1)) w1 from ⟨A1, c1, b1, m1, f1, rfl, hc1, hb1, hn1, ho1, hx1⟩)
  obtain ⟨n, hn⟩ : ∃ n, n = ds.length := ⟨_, rfl⟩
  have HN := hide hn
  rw [← hn] at h4 h1 HO ⊢
  clear hn ho1 hx1 hb1 hn1
  go_wp2
  go_loopg [5] 300 (fun gk v wr => ∃ now : List Int, now.length = n ∧ OwnRes now w (.returned v) wr ∧ G now ∧ fixL st gk now = fixL st 300 ds ∧ sumL now < gk)
  case atStart => exact ⟨ds, HN.out.symm, HO.out, HGD.out, rfl, by have := sumL_bd ds (HST.out.dom ds HGD.out); have := HN.out; omega⟩
  case round =>
    obtain ⟨now, hnl, ⟨A, cc, b, m, f, hv, hc, hb, hnb, ho, hx⟩, hgn, hR, hsum⟩ := hrel
    injection hv with hv
    subst hv
    have HS := hide (SInts.own hc hb ho (HST.out.i64 now hgn))
    have HOW := hide (show OwnRes now w (.returned (.slice A now.length cc)) wr from ⟨A, cc, b, m, f, rfl, hc, hb, hnb, ho, hx⟩)
    have HGN := hide hgn
    have HR := hide hR
    have HX := hide hx
    have HNL := hide hnl
    have hsb := (sumL_bd now (HST.out.dom now hgn)).1
    obtain ⟨k, rfl⟩ : ∃ k, gk = k + 1 := ⟨gk - 1, by omega⟩
    rw [hnl] at HS HOW ⊢
    clear hgn hR hx ho hnb hnl hc
    cases h0 : hasI now 0 with
    | true =>
      have H0 := hide h0
      have HZ := hide (show fixL st 300 ds = zer n by rw [← HR.out, fixL, if_pos h0, HNL.out])
      clear h0
      go_wp2_with (first | (go_at_call 33; refine (Contains_any _ now _ _ HS.out).mono ?_; rintro e w' ⟨rfl, rfl⟩; rw [H0.out]) | (at_make; go_must (refine wpList_make_gen _ rfl _ _ 23 rfl 3 (.int .i64 0) 1 8 Try.underlying23 Try.infoI .i64 .i64 n rfl rfl (by omega) (by omega) (fun _ => .int .i64 0) (fun i _ => by simp [Value.cells, Nat.mod_one]) ?_); intro w3 hrow3 hsz3 hx3; rw [Nat.mul_one] at hrow3; have HROW := hide hrow3; have HX3 := hide hx3; clear hrow3 hsz3 hx3))
      go_ret
      rw [HZ.out]
      exact (show OwnRes (zer n) w (.returned (.slice (some ⟨wr.heap.size, 0, none⟩) n n)) w3 from ⟨some ⟨wr.heap.size, 0, none⟩, n, wr.heap.size, n, _, by rw [zer_len], by rw [zer_len]; exact Nat.le_refl _, by rw [zer_len]; omega, HX.out.size, fun _ => ⟨rfl, HROW.out, by rw [zer_len]; exact Nat.le_refl _, fun i _ => by rw [zer_at]⟩, HX.out.trans HX3.out⟩)
    | false =>
      have H0 := hide h0
      clear h0
      go_wp2_with (go_at_call 33; refine (Contains_any _ now _ _ HS.out).mono ?_; rintro e w' ⟨rfl, rfl⟩; rw [H0.out])
      refine (hs.out now _ _ HX.out HS.out HGN.out).mono ?_
      rintro e w3 (hown | ⟨rfl, heq, hx3⟩)
      · obtain ⟨A3, c3, b3, m3, f3, rfl, hc3, hb3, hn3, ho3, hx3⟩ := hown
        have hl3 : (st now).length = n := by rw [(HST.out.sub now HGN.out).len, HNL.out]
        have HS3 := hide (SInts.own hc3 hb3 ho3 (HST.out.i64 _ (HST.out.stay now HGN.out)))
        have HO3 := hide (show OwnRes (st now) w (.returned (.slice A3 (st now).length c3)) w3 from ⟨A3, c3, b3, m3, f3, rfl, hc3, hb3, Nat.le_trans HX.out.size hn3, ho3, HX.out.trans hx3⟩)
        have HOW3 := hide (HOW.out.grow hx3)
        have HS2 := hide (HS.out.ext hx3)
        have HX3 := hide hx3
        have HL3 := hide hl3
        rw [hl3] at HS3 HO3 ⊢
        clear hx3 ho3 hn3 hb3 hc3 hl3
        go_wp2_with fail
        refine (EqualI_any _ _ (st now) now _ HS3.out HS2.out).mono ?_
        rintro e w4 ⟨rfl, hx4⟩
        have HX4 := hide hx4
        clear hx4
        by_cases he : st now = now
        · have HE := hide (show fixL st 300 ds = now by rw [← HR.out, fixL, if_neg (by rw [H0.out]; simp), if_pos he])
          rw [decide_eq_true he]
          clear he
          go_wp2
          go_ret
          rw [HE.out]
          exact HOW3.out.grow HX4.out
        · have HE := hide (show fixL st 300 ds = fixL st k (st now) by rw [← HR.out, fixL, if_neg (by rw [H0.out]; simp), if_neg he])
          have hlt := SubD.sum (HST.out.dom _ (HST.out.stay now HGN.out)) (HST.out.dom now HGN.out) (HST.out.sub now HGN.out) he
          rw [decide_eq_false he]
          have HLT := hide hlt
          clear he hlt
          go_wp2
          go_roundg k
          case measure => omega
          case rel => exact ⟨st now, HL3.out, HO3.out.grow HX4.out, HST.out.stay now HGN.out, HE.out.symm, by have := HLT.out; omega⟩
      · have HOW3 := hide (HOW.out.grow hx3)
        have HS2 := hide (HS.out.ext hx3)
        have HE := hide (show fixL st 300 ds = now by rw [← HR.out, fixL, if_neg (by rw [H0.out]; simp), if_pos heq])
        clear hx3 heq
        go_wp2_with fail
        refine (EqualI_any _ _ now now _ HS2.out HS2.out).mono ?_
        rintro e w4 ⟨rfl, hx4⟩
        have HX4 := hide hx4
        have htt : decide (now = now) = true := by simp
        rw [htt]
        clear hx4 htt
        go_wp2
        go_ret
        rw [HE.out]
        exact HOW3.out.grow HX4.out
end Go.Proofs.Ytgeflejmdlipmaa
/- propagate of the program. -/
namespace Go.Proofs.Ytgeflejmdlipmaa
open Go.RowKit

/-- v is a model that reads as these domains and constraints. -/
def SMod (w : World) (v : Value) (ds : List Int) (cs : List Con) : Prop := ∃ vd vc, v = .agg #[vd, vc] ∧ SInts w vd ds ∧ SCons w vc cs
theorem SMod.ext {w w' : World} {v : Value} {ds : List Int} {cs : List Con} (h : SMod w v ds cs) (hx : Ext w w') : SMod w' v ds cs := by
  obtain ⟨vd, vc, h1, h2, h3⟩ := h
  exact ⟨vd, vc, h1, h2.ext hx, h3.ext hx⟩
set_option maxRecDepth 100000 in
set_option maxHeartbeats 4000000 in
theorem filtered_any (v vd : Value) (D ds : List Int) (cs : List Con) (w : World) (hM : SMod w v D cs) (hD : SInts w vd ds) (hG : GoodD cs ds.length ds) :
    Calls Try.prog 56 #[v, vd] w (OwnOr vd ds (stepL cs ds) w) := by
  obtain ⟨ve, vc, rfl, hE, hC⟩ := hM
  have hD0 := hide hD
  have HG := hide hG
  obtain ⟨Ae, ce, rfl, -, hle⟩ := hE.form
  obtain ⟨Ac, cc, rfl, -, hlc⟩ := hC.form
  obtain ⟨Ad, cd, rfl, -, hld⟩ := hD.form
  have hx0 := (Ext.refl w).alloc (.cells #[.slice Ae D.length ce, .slice Ac cs.length cc] 26)
  have HX0 := hide hx0
  have hC0 := hide (hC.ext hx0)
  have hDX := hide (hD.ext hx0)
  clear hE hC hD hG hx0
  go_enter Try.func56, Try.ntmps56
  go_wp2
  go_loopw [1, 10] (fun d i wr => ∃ k : Nat, i = .int .i64 k ∧ k ≤ cs.length ∧ Ext w wr ∧ Ext (w.alloc (.cells #[.slice Ae D.length ce, .slice Ac cs.length cc] 26)) wr ∧ SInts wr d (stepK cs ds k) ∧ ((k = 0 ∧ d = .slice Ad ds.length cd) ∨ OwnRes (stepK cs ds k) w (.returned d) wr)) (fun _ i _ => cs.length - (intOf i).toNat)
  case atStart => exact ⟨0, rfl, Nat.zero_le _, HX0.out, Ext.refl _, hDX.out, .inl ⟨rfl, rfl⟩⟩
  case round =>
    obtain ⟨k, rfl, hk, hx, hx1, hS, hO⟩ := hrel
    have HX := hide hx
    have HX1 := hide hx1
    have HS := hide hS
    obtain ⟨Gk, Sk⟩ := HG.out.stepK k hk
    have hkl : (stepK cs ds k).length = ds.length := Gk.1
    obtain ⟨A, c, rfl, -, hlk⟩ := hS.form
    have HO := hide hO
    have HGK := hide Gk
    have HKL := hide hkl
    clear hx hS hO Gk Sk
    by_cases hlt : k < cs.length
    · have hkI : (k : Int) < cs.length := by omega
      obtain ⟨b, off, rfl, hbl, vv, va, vr, f1, f2, f3, f4, f5, s1, s2, s3⟩ := (hC0.out.ext hx1).at_ hlt
      obtain ⟨Av, cv, rfl, -, -⟩ := s1.form
      obtain ⟨Aa, ca, rfl, -, -⟩ := s2.form
      obtain ⟨Ar, cr, rfl, -, -⟩ := s3.form
      have HC := hide (show SCon wr (.agg #[.int .i64 (con0 cs k).kk, .slice Av (con0 cs k).vars.length cv, .slice Aa (con0 cs k).args.length ca, .int .i64 (con0 cs k).bound, .slice Ar (con0 cs k).rows.length cr]) (con0 cs k) from ⟨_, _, _, rfl, s1, s2, s3⟩)
      have HV := hide (show vCon (con0 cs k) (stepK cs ds k).length = true by rw [HKL.out]; exact HG.out.2.2 k hlt)
      clear s1 s2 s3 hx1 hkl
      go_wp2_with fail
      have hxa := (Ext.refl wr).alloc (.cells #[.int .i64 (con0 cs k).kk, .slice Av (con0 cs k).vars.length cv, .slice Aa (con0 cs k).args.length ca, .int .i64 (con0 cs k).bound, .slice Ar (con0 cs k).rows.length cr] 54)
      refine (filter_any _ _ (con0 cs k) (stepK cs ds k) _ (HC.out.ext hxa) (HS.out.ext hxa) HV.out HGK.out.2.1).mono ?_
      rintro e w2 ⟨A2, c2, b2, m2, g2, rfl, hc2, hb2, hn2, ho2, hx2⟩
      have hxx := hxa.trans hx2
      have HXX := hide hxx
      obtain ⟨Gn, Sn⟩ := HGK.out.filt (i := k) hlt
      have HK1 := hide (show stepK cs ds (k + 1) = filtL (con0 cs k) (stepK cs ds k) from rfl)
      have HOR := hide (show OwnRes (stepK cs ds (k + 1)) w (.returned (.slice A2 (filtL (con0 cs k) (stepK cs ds k)).length c2)) w2 from ⟨A2, c2, b2, m2, g2, rfl, hc2, hb2, Nat.le_trans (HX.out.trans hxa).size hn2, ho2, HX.out.trans hxx⟩)
      have HSN := hide (show SInts w2 (.slice A2 (filtL (con0 cs k) (stepK cs ds k)).length c2) (stepK cs ds (k + 1)) from SInts.own hc2 hb2 ho2 (fun i hi => by have := Gn.2.1 i hi; unfold I64; omega))
      obtain ⟨L, hL⟩ : ∃ L, L = (filtL (con0 cs k) (stepK cs ds k)).length := ⟨_, rfl⟩
      rw [← hL] at HOR HSN ⊢
      clear hxa hx2 hxx ho2 hn2 hb2 hc2 Gn Sn hL
      go_wp2
      go_roundw
      case rel => exact ⟨k + 1, by go_num, by omega, HX.out.trans HXX.out, HX1.out.trans HXX.out, HSN.out, .inr HOR.out⟩
      case measure => simp [intOf]; omega
    · obtain rfl : k = cs.length := by omega
      have hkI : ¬ ((cs.length : Int) < cs.length) := by omega
      have HQ := hide (show OwnOr (.slice Ad ds.length cd) ds (stepL cs ds) w (.returned (.slice A (stepK cs ds cs.length).length c)) wr from by
        rcases HO.out with ⟨h0, h1⟩ | h1
        · refine .inr ⟨by rw [h1], ?_, HX.out⟩
          unfold stepL; rw [h0]; rfl
        · exact .inl h1)
      obtain ⟨L, hL⟩ : ∃ L, L = (stepK cs ds cs.length).length := ⟨_, rfl⟩
      rw [← hL] at HQ ⊢
      clear hL
      go_wp2
      go_ret
      exact HQ.out
set_option maxHeartbeats 4000000 in
theorem propagate_any (v vd : Value) (D ds : List Int) (cs : List Con) (w : World) (hM : SMod w v D cs) (hD : SInts w vd ds) (hG : GoodD cs ds.length ds) (h4 : ds.length ≤ 4) (h1 : 0 < ds.length) :
    Calls Try.prog 28 #[v, vd] w (OwnRes (propL cs ds) w) := by
  have hM0 := hide hM
  have hD0 := hide hD
  have HG := hide hG
  obtain ⟨ve, vc, rfl, hE, hC⟩ := hM
  obtain ⟨Ae, ce, rfl, -, hle⟩ := hE.form
  obtain ⟨Ac, cc, rfl, -, hlc⟩ := hC.form
  obtain ⟨Ad, cd, rfl, -, hld⟩ := hD.form
  have hx0 := (Ext.refl w).alloc (.cells #[.slice Ae D.length ce, .slice Ac cs.length cc] 26)
  have HX0 := hide hx0
  clear hE hC hD hG hx0
  go_enter Try.func28, Try.ntmps28
  go_wp2_with fail
  refine (fixpointB_any _ ds 56 (.agg #[.slice Ae D.length ce, .slice Ac cs.length cc]) (stepL cs) (GoodD cs ds.length) _ (hD0.out.ext HX0.out) HG.out (stepOK cs ds.length) h4 h1 (fun args W => callFunc_body Try.func56 (by kernel_rfl) (by kernel_rfl) args W)
    (hide fun now v' W hW hS hgn => filtered_any _ v' D now cs W (hM0.out.ext (HX0.out.trans hW)) hS (by have h := hgn; rw [← h.1] at h; exact h))).mono ?_
  rintro e w2 hres
  obtain ⟨A2, c2, b2, m2, g2, rfl, hc2, hb2, hn2, ho2, hx2⟩ := hres
  have HR := hide (show OwnRes (propL cs ds) w (.returned (.slice A2 (fixL (stepL cs) 300 ds).length c2)) w2 from ⟨A2, c2, b2, m2, g2, rfl, hc2, hb2, Nat.le_trans HX0.out.size hn2, ho2, HX0.out.trans hx2⟩)
  obtain ⟨L, hL⟩ : ∃ L, L = (fixL (stepL cs) 300 ds).length := ⟨_, rfl⟩
  rw [← hL] at HR ⊢
  clear hc2 hb2 hn2 ho2 hx2 hL
  go_wp2
  go_ret
  exact HR.out
end Go.Proofs.Ytgeflejmdlipmaa
