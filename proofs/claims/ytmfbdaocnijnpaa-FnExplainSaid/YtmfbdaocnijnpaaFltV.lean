/- Filter for all arguments: the program and the reference. -/
import Derived.Test.YtmfbdaocnijnpaaExpA
import Derived.Test.YtmfbdaocnijnpaaFilt
import Derived.Test.YtmfbdaocnijnpaaFitK
namespace Go.Proofs.Ytmfbdaocnijnpaa
open Go.RowKit

def fltV (c : Con) (ds : List Int) : List Int := if (inR ds.length 1 4 && allR ds 0 63) && vCon c ds.length then filtL c ds else []
/-- A list of numbers came. -/
def IntsGot (xs : List Int) (w : World) (e : Ending) (w' : World) : Prop := ∃ v, e = .returned v ∧ SInts w' v xs ∧ Ext w w'
theorem SInts.nilX (w : World) : SInts w (.slice none 0 0) [] := ⟨_, _, rfl, Nat.le_refl _, by simp, fun i hi => absurd hi (by simp), fun hp => absurd hp (by simp)⟩
theorem filtL_dom {c : Con} {ds : List Int} (hd : DomL ds) (hc : vCon c ds.length = true) : DomL (filtL c ds) ∧ (filtL c ds).length = ds.length :=
  ⟨(GoodD.filt (cs := [c]) (n := ds.length) ⟨rfl, hd, fun i hi => by
    obtain rfl : i = 0 := by simpa using hi
    exact hc⟩ (i := 0) (by simp)).1.2.1, filtP_len _ _ _⟩
theorem OwnRes.got {c : Con} {ds : List Int} {w w0 w' : World} {e : Ending} (h : OwnRes (filtL c ds) w0 e w') (hx : Ext w w0) (hd : DomL ds) (hc : vCon c ds.length = true) (hv : fltV c ds = filtL c ds) : IntsGot (fltV c ds) w e w' := by
  have h0 := h
  obtain ⟨A, cp, b, m, f, h1, -⟩ := h
  subst h1
  have hf := filtL_dom hd hc
  rw [hv]
  exact ⟨_, rfl, OwnRes.ints h0 (fun i hi => by have := hf.1 i hi; unfold I64; omega), hx.trans (OwnRes.ext0 h0)⟩
set_option maxRecDepth 100000 in
set_option maxHeartbeats 4000000 in
theorem FilterIA_any (v vd : Value) (c : Con) (ds : List Int) (w : World) (hC : SCon w v c) (hD : SInts w vd ds) :
    Calls Try.prog 10 #[v, vd] w (IntsGot (fltV c ds) w) := by
  have hC0 := hide hC
  have hD0 := hide hD
  obtain ⟨vv, va, vr, rfl, hV, hA, hR⟩ := hC
  obtain ⟨Av, cv, rfl, -, -⟩ := hV.form
  obtain ⟨Aa, ca, rfl, -, -⟩ := hA.form
  obtain ⟨Ar, cr, rfl, -, -⟩ := hR.form
  obtain ⟨Ad, cd, rfl, -, hld⟩ := hD.form
  have hV0 := hide hV
  have hA0 := hide hA
  have hR0 := hide hR
  clear hV hA hR hD
  obtain ⟨w0, hw0⟩ : ∃ w0, w0 = w.alloc (.cells #[.int .i64 c.kk, .slice Av c.vars.length cv, .slice Aa c.args.length ca, .int .i64 c.bound, .slice Ar c.rows.length cr] 26) := ⟨_, rfl⟩
  have hx0 : Ext w w0 := by rw [hw0]; exact (Ext.refl w).alloc _
  have K0 : w0.cell? ⟨w.heap.size, 0, none⟩ = some (.int .i64 c.kk) := by rw [hw0]; go_simp
  have K1 : w0.cell? ⟨w.heap.size, 1, none⟩ = some (.slice Av c.vars.length cv) := by rw [hw0]; go_simp
  have K2 : w0.cell? ⟨w.heap.size, 2, none⟩ = some (.slice Aa c.args.length ca) := by rw [hw0]; go_simp
  have K3 : w0.cell? ⟨w.heap.size, 3, none⟩ = some (.int .i64 c.bound) := by rw [hw0]; go_simp
  have K4 : w0.cell? ⟨w.heap.size, 4, none⟩ = some (.slice Ar c.rows.length cr) := by rw [hw0]; go_simp
  have ks : w.heap.size < w0.heap.size := by rw [hw0]; simp
  have HX0 := hide hx0
  clear hx0
  cases h1 : (inR ds.length 1 4 && allR ds 0 63) with
  | false =>
    have HR := hide (show fltV c ds = [] by rw [fltV, h1]; rfl)
    have HQ := hide h1
    clear h1
    go_enter Try.func10, Try.ntmps10
    go_wp2_with fail
    try rw [← hw0]
    clear hw0
    refine (domainsOk_any _ ds _ (hD0.out.ext HX0.out)).mono ?_
    rintro e w1 ⟨rfl, hx1⟩
    rw [HQ.out]
    have HX1 := hide (HX0.out.trans hx1)
    clear hx1
    go_wp2_with fail
    go_ret
    exact ⟨_, rfl, by rw [HR.out]; exact SInts.nilX _, HX1.out⟩
  | true =>
    have hdl : DomL ds := DomL.of (by simp only [Bool.and_eq_true] at h1; exact h1.2)
    have HDL := hide hdl
    have HQ := hide h1
    clear hdl
    cases h2 : vCon c ds.length with
    | false =>
      have HR := hide (show fltV c ds = [] by rw [fltV, h1, h2]; rfl)
      have HQ2 := hide h2
      clear h1 h2
      go_enter Try.func10, Try.ntmps10
      go_wp2_with fail
      try rw [← hw0]
      clear hw0
      refine (domainsOk_any _ ds _ (hD0.out.ext HX0.out)).mono ?_
      rintro e w1 ⟨rfl, hx1⟩
      rw [HQ.out]
      have K0 := (hx1.cells _ _ ks).trans K0
      have K1 := (hx1.cells _ _ ks).trans K1
      have K2 := (hx1.cells _ _ ks).trans K2
      have K3 := (hx1.cells _ _ ks).trans K3
      have K4 := (hx1.cells _ _ ks).trans K4
      have HX1 := hide (HX0.out.trans hx1)
      clear hx1
      go_wp2_with fail
      refine (ValidConstraintI_any c _ _ _ ds.length _ (fits_all c) (hV0.out.ext HX1.out) (hA0.out.ext HX1.out) (hR0.out.ext HX1.out)).mono ?_
      rintro e w2 ⟨rfl, hx2⟩
      rw [HQ2.out]
      have HX2 := hide (HX1.out.trans hx2)
      clear hx2
      go_wp2_with fail
      go_ret
      exact ⟨_, rfl, by rw [HR.out]; exact SInts.nilX _, HX2.out⟩
    | true =>
      have HR := hide (show fltV c ds = filtL c ds by rw [fltV, h1, h2]; rfl)
      have HQ2 := hide h2
      clear h1 h2
      go_enter Try.func10, Try.ntmps10
      go_wp2_with fail
      try rw [← hw0]
      clear hw0
      refine (domainsOk_any _ ds _ (hD0.out.ext HX0.out)).mono ?_
      rintro e w1 ⟨rfl, hx1⟩
      rw [HQ.out]
      have ks1 := Nat.lt_of_lt_of_le ks hx1.size
      have K0 := (hx1.cells _ _ ks).trans K0
      have K1 := (hx1.cells _ _ ks).trans K1
      have K2 := (hx1.cells _ _ ks).trans K2
      have K3 := (hx1.cells _ _ ks).trans K3
      have K4 := (hx1.cells _ _ ks).trans K4
      have HX1 := hide (HX0.out.trans hx1)
      clear hx1
      go_wp2_with fail
      refine (ValidConstraintI_any c _ _ _ ds.length _ (fits_all c) (hV0.out.ext HX1.out) (hA0.out.ext HX1.out) (hR0.out.ext HX1.out)).mono ?_
      rintro e w2 ⟨rfl, hx2⟩
      rw [HQ2.out]
      have K0 := (hx2.cells _ _ ks1).trans K0
      have K1 := (hx2.cells _ _ ks1).trans K1
      have K2 := (hx2.cells _ _ ks1).trans K2
      have K3 := (hx2.cells _ _ ks1).trans K3
      have K4 := (hx2.cells _ _ ks1).trans K4
      have HX2 := hide (HX1.out.trans hx2)
      clear hx2
      go_wp2_with fail
      refine (filter_any _ _ c ds _ ⟨_, _, _, rfl, hV0.out.ext HX2.out, hA0.out.ext HX2.out, hR0.out.ext HX2.out⟩ (hD0.out.ext HX2.out) HQ2.out HDL.out).mono ?_
      intro e w3 h
      have hg := h.got HX2.out HDL.out HQ2.out HR.out
      obtain ⟨u, rfl, hu⟩ := hg
      have HU := hide hu
      clear h hu
      go_wp2_with fail
      go_ret
      exact ⟨u, rfl, HU.out⟩
set_option maxRecDepth 100000 in
set_option maxHeartbeats 4000000 in
theorem FilterSA_any (v vd : Value) (c : Con) (ds : List Int) (w : World) (hC : SCon w v c) (hD : SInts w vd ds) (hl : ds.length ≤ 1000) :
    Calls Try.prog 12 #[v, vd] w (IntsGot (fltV c ds) w) := by
  have hC0 := hide hC
  have hD0 := hide hD
  obtain ⟨vv, va, vr, rfl, hV, hA, hR⟩ := hC
  obtain ⟨Av, cv, rfl, -, -⟩ := hV.form
  obtain ⟨Aa, ca, rfl, -, -⟩ := hA.form
  obtain ⟨Ar, cr, rfl, -, -⟩ := hR.form
  obtain ⟨Ad, cd, rfl, -, hld⟩ := hD.form
  have hV0 := hide hV
  have hA0 := hide hA
  have hR0 := hide hR
  clear hV hA hR hD
  obtain ⟨w0, hw0⟩ : ∃ w0, w0 = w.alloc (.cells #[.int .i64 c.kk, .slice Av c.vars.length cv, .slice Aa c.args.length ca, .int .i64 c.bound, .slice Ar c.rows.length cr] 26) := ⟨_, rfl⟩
  have hx0 : Ext w w0 := by rw [hw0]; exact (Ext.refl w).alloc _
  have K0 : w0.cell? ⟨w.heap.size, 0, none⟩ = some (.int .i64 c.kk) := by rw [hw0]; go_simp
  have K1 : w0.cell? ⟨w.heap.size, 1, none⟩ = some (.slice Av c.vars.length cv) := by rw [hw0]; go_simp
  have K2 : w0.cell? ⟨w.heap.size, 2, none⟩ = some (.slice Aa c.args.length ca) := by rw [hw0]; go_simp
  have K3 : w0.cell? ⟨w.heap.size, 3, none⟩ = some (.int .i64 c.bound) := by rw [hw0]; go_simp
  have K4 : w0.cell? ⟨w.heap.size, 4, none⟩ = some (.slice Ar c.rows.length cr) := by rw [hw0]; go_simp
  have ks : w.heap.size < w0.heap.size := by rw [hw0]; simp
  have HX0 := hide hx0
  clear hx0
  cases h1 : (inR ds.length 1 4 && allR ds 0 63) with
  | false =>
    have HR := hide (show fltV c ds = [] by rw [fltV, h1]; rfl)
    have HQ := hide h1
    clear h1
    go_enter Try.func12, Try.ntmps12
    go_wp2_with fail
    try rw [← hw0]
    clear hw0
    refine (validDomains_any _ ds _ (hD0.out.ext HX0.out)).mono ?_
    rintro e w1 ⟨rfl, rfl⟩
    rw [HQ.out]
    go_wp2_with fail
    go_ret
    exact ⟨_, rfl, by rw [HR.out]; exact SInts.nilX _, HX0.out⟩
  | true =>
    have hdl : DomL ds := DomL.of (by simp only [Bool.and_eq_true] at h1; exact h1.2)
    have hin : inR ds.length 1 4 = true := by simp only [Bool.and_eq_true] at h1; exact h1.1
    have HDL := hide hdl
    have HQ := hide h1
    have hvv := vCon_vCs c ds.length
    rw [hin, Bool.true_and] at hvv
    clear hdl hin
    cases h2 : vCs c ds.length with
    | false =>
      have HR := hide (show fltV c ds = [] by rw [fltV, h1, hvv, h2]; rfl)
      have HQ2 := hide h2
      clear h1 h2 hvv
      go_enter Try.func12, Try.ntmps12
      go_wp2_with fail
      try rw [← hw0]
      clear hw0
      refine (validDomains_any _ ds _ (hD0.out.ext HX0.out)).mono ?_
      rintro e w1 ⟨rfl, rfl⟩
      rw [HQ.out]
      go_wp2_with fail
      refine (validConstraintS_any c _ _ _ ds.length _ (hV0.out.ext HX0.out) (hA0.out.ext HX0.out) (hR0.out.ext HX0.out) (by omega) (by omega)).mono ?_
      rintro e w2 ⟨rfl, hx2⟩
      rw [HQ2.out]
      have HX2 := hide (HX0.out.trans hx2)
      clear hx2
      go_wp2_with fail
      go_ret
      exact ⟨_, rfl, by rw [HR.out]; exact SInts.nilX _, HX2.out⟩
    | true =>
      have HR := hide (show fltV c ds = filtL c ds by rw [fltV, h1, hvv, h2]; rfl)
      have HCV := hide (hvv.trans h2)
      have HQ2 := hide h2
      clear h1 h2 hvv
      go_enter Try.func12, Try.ntmps12
      go_wp2_with fail
      try rw [← hw0]
      clear hw0
      refine (validDomains_any _ ds _ (hD0.out.ext HX0.out)).mono ?_
      rintro e w1 ⟨rfl, rfl⟩
      rw [HQ.out]
      go_wp2_with fail
      refine (validConstraintS_any c _ _ _ ds.length _ (hV0.out.ext HX0.out) (hA0.out.ext HX0.out) (hR0.out.ext HX0.out) (by omega) (by omega)).mono ?_
      rintro e w2 ⟨rfl, hx2⟩
      rw [HQ2.out]
      have K0 := (hx2.cells _ _ ks).trans K0
      have K1 := (hx2.cells _ _ ks).trans K1
      have K2 := (hx2.cells _ _ ks).trans K2
      have K3 := (hx2.cells _ _ ks).trans K3
      have K4 := (hx2.cells _ _ ks).trans K4
      have HX2 := hide (HX0.out.trans hx2)
      clear hx2
      go_wp2_with fail
      refine (supported_any _ _ c ds _ ⟨_, _, _, rfl, hV0.out.ext HX2.out, hA0.out.ext HX2.out, hR0.out.ext HX2.out⟩ (hD0.out.ext HX2.out) HCV.out HDL.out).mono ?_
      intro e w3 h
      have hg := h.got HX2.out HDL.out HCV.out HR.out
      obtain ⟨u, rfl, hu⟩ := hg
      have HU := hide hu
      clear h hu
      go_wp2_with fail
      go_ret
      exact ⟨u, rfl, HU.out⟩
end Go.Proofs.Ytmfbdaocnijnpaa
