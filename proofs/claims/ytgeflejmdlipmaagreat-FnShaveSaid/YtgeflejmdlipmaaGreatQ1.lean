/- What the laws call: Backbone of the program; the model with other domains is valid. -/
import Derived.Test.YtgeflejmdlipmaaGreatLwZ
import Derived.Test.YtgeflejmdlipmaaGreatBbW
import Derived.Test.YtgeflejmdlipmaaGreatDrwC
import Derived.Test.YtgeflejmdlipmaaGreatShvI
import Derived.Test.YtgeflejmdlipmaaGreatShvS
import Derived.Test.YtgeflejmdlipmaaGreatQ0
import Derived.Deep.CutBlock
import Derived.Deep.DeepCutAuto
import Derived.Test.YtgeflejmdlipmaaGreatOpnA
import Derived.ShutString
import Derived.ChangeOld
namespace Go.Proofs.YtgeflejmdlipmaaGreat
open Go.RowKit

set_option maxRecDepth 100000 in
set_option maxHeartbeats 4000000 in
theorem BackboneI_any (v : Value) (ds : List Int) (cs : List Con) (w : World) (hM : SMod w v ds cs) :
    Calls Tryz.prog 10 #[v] w (OwnRes (bbV ds cs) w) := by
  have hM0 := hide hM
  obtain ⟨ve, vc, rfl, hE, hC⟩ := hM
  obtain ⟨Ae, ce, rfl, -, hle⟩ := hE.form
  obtain ⟨Ac, cc, rfl, -, hlc⟩ := hC.form
  obtain ⟨w0, hw0⟩ : ∃ w0, w0 = w.alloc (.cells #[.slice Ae ds.length ce, .slice Ac cs.length cc] 26) := ⟨_, rfl⟩
  have hx0 : Ext w w0 := by rw [hw0]; exact (Ext.refl w).alloc _
  have k0 : w0.cell? ⟨w.heap.size, 0, none⟩ = some (.slice Ae ds.length ce) := by rw [hw0]; go_simp
  have k1 : w0.cell? ⟨w.heap.size, 1, none⟩ = some (.slice Ac cs.length cc) := by rw [hw0]; go_simp
  have ks : w.heap.size < w0.heap.size := by rw [hw0]; simp
  have HX0 := hide hx0
  have hE0 := hide (hE.ext hx0)
  have hC0 := hide (hC.ext hx0)
  clear hE hC hx0
  go_enter Tryz.func10, Tryz.ntmps10
  go_wp2_with fail
  rw [← hw0]
  clear hw0
  refine (ValidModelI_any _ _ ds cs _ hE0.out hC0.out (fun i _ => fits_all _)).mono ?_
  rintro e w1 ⟨rfl, hx1⟩
  have HX1 := hide (HX0.out.trans hx1)
  have k0 := (hx1.cells _ _ ks).trans k0
  have k1 := (hx1.cells _ _ ks).trans k1
  clear hx1
  cases hv : vMod ds cs with
  | false =>
    have HV := hide (show bbV ds cs = [] by rw [bbV, hv]; rfl)
    clear hv
    go_wp2
    go_ret
    rw [HV.out]
    exact OwnRes.nil_ rfl HX1.out
  | true =>
    have HV := hide (show bbV ds cs = bbL cs ds by rw [bbV, hv]; rfl)
    obtain ⟨hG, hp, h4⟩ := vMod_good hv
    have HG := hide hG
    clear hv hG
    go_wp2_with fail
    refine (backboneI_any _ ds cs _ (hM0.out.ext HX1.out) HG.out hp h4).mono ?_
    rintro e w2 hres
    have HRES := hide (show OwnRes (bbV ds cs) w e w2 by rw [HV.out]; exact OwnRes.from hres HX1.out)
    obtain ⟨A3, c3, b3, m3, f3, rfl, -⟩ := hres
    obtain ⟨L, hL⟩ : ∃ L, L = (bbL cs ds).length := ⟨_, rfl⟩
    rw [← hL] at HRES ⊢
    clear hL
    go_wp2
    go_ret
    exact HRES.out
end Go.Proofs.YtgeflejmdlipmaaGreat
/- The law's walk: FnShave returns true. Printed by genlawshf.py. -/
namespace Go.Proofs.YtgeflejmdlipmaaGreat
open Go.RowKit

theorem vMod_re {ds r : List Int} {cs : List Con} (h : vMod ds cs = true) (hg : GoodD cs ds.length r) : vMod r cs = true := by
  simp only [vMod, Bool.and_eq_true, Bool.not_eq_true', decide_eq_true_eq] at h ⊢
  obtain ⟨⟨h1, h2⟩, h3, h4⟩ := h
  rw [hg.1]
  refine ⟨⟨h1, allR_of fun j hj => ?_⟩, h3, h4⟩
  obtain ⟨d0, d1⟩ := hg.2.1 j hj
  simp only [inR, Bool.and_eq_true, decide_eq_true_eq]
  omega
/-- What the law says. -/
theorem shave_all {ds : List Int} {cs : List Con} (hv : vMod ds cs = true) : shvV ds cs = shaveL cs ds ∧ prpV ds cs = propL cs ds ∧ bbV ds cs = bbL cs ds ∧ shvV (shaveL cs ds) cs = shaveL cs ds ∧ GoodD cs ds.length (shaveL cs ds) ∧ GoodD cs ds.length (propL cs ds) ∧ GoodD cs ds.length (bbL cs ds) ∧
    SubD (shaveL cs ds) (propL cs ds) ∧ SubD (bbL cs ds) (shaveL cs ds) ∧ 0 < ds.length ∧ ds.length ≤ 4 := by
  obtain ⟨hG, hp, h4⟩ := vMod_good hv
  obtain ⟨hg, -, -⟩ := shave_R hG h4
  exact ⟨by rw [shvV, if_pos hv], by rw [prpV, if_pos hv], by rw [bbV, if_pos hv], by rw [shvV, if_pos (vMod_re hv hg), shave_twice hG h4 hp], hg, (propL_R hG h4).good, ⟨(bbL_good cs ds).1, (bbL_good cs ds).2, hG.2.2⟩, shave_prop hG h4, bb_shave hG h4, hp, h4⟩
set_option maxRecDepth 100000 in
set_option maxHeartbeats 16000000 in
theorem lawShave (v : Value) (n : Nat) (w : World) (hB : SBytes w v n) (_hn : n ≤ 140737488351232) :
    Calls Tryz.prog 3 #[v] w (Ret (.bool true) w) := by
  have HB := hide hB
  obtain ⟨A, c, rfl, -⟩ := hB
  by_cases hl : (1048576 : Int) < n
  · go_enter Tryz.func3, Tryz.ntmps3
    go_wp2
    go_ret
    exact Ret.mk rfl (Ext.refl _)
  · go_enter Tryz.func3, Tryz.ntmps3
    go_wp2_with fail
    refine (DrawShave_any _ n _ HB.out).mono ?_
    rintro e wd ⟨vd, vc, ds, cs, rfl, hD, hC, hd1, hd4, hx1⟩
    obtain ⟨Ad, cd, rfl, -, hld⟩ := hD.form
    obtain ⟨Ac, cc, rfl, -, hlc⟩ := hC.form
    have HX1 := hide hx1
    have HD1 := hide hD
    have HC1 := hide hC
    clear hx1 hD hC
    go_upto_region 4 with fail
    obtain ⟨w0, hw0⟩ : ∃ w0, w0 = wd.alloc (.cells #[.slice Ad ds.length cd, .slice Ac cs.length cc] 26) := ⟨_, rfl⟩
    have hx0 : Ext wd w0 := by rw [hw0]; exact (Ext.refl wd).alloc _
    have k0 : w0.cell? ⟨wd.heap.size, 0, none⟩ = some (.slice Ad ds.length cd) := by rw [hw0]; go_simp
    have k1 : w0.cell? ⟨wd.heap.size, 1, none⟩ = some (.slice Ac cs.length cc) := by rw [hw0]; go_simp
    have ks_w0 : wd.heap.size < w0.heap.size := by rw [hw0]; simp
    rw [← hw0]
    clear hw0
    have HX0 := hide (HX1.out.trans hx0)
    have HD0 := hide (HD1.out.ext hx0)
    have HM0 := hide (show SMod w0 (.agg #[.slice Ad ds.length cd, .slice Ac cs.length cc]) ds cs from ⟨_, _, rfl, HD1.out.ext hx0, HC1.out.ext hx0⟩)
    clear hx0 HX1 HD1 HC1
    have HX_w0 := hide (Ext.refl w0)
    obtain ⟨xs, hxs⟩ : ∃ xs, xs = shvV ds cs := ⟨_, rfl⟩
    have HI64 := hide (show ∀ j, j < xs.length → I64 (at0 xs j) by rw [hxs]; exact shvV_i64 ds cs)
    have HXS := hide hxs
    clear hxs
    go_wp2_with fail
    refine (ShaveI_any _ ds cs _ (HM0.out.ext HX_w0.out)).mono ?_
    rintro e w1 hres
    rw [← HXS.out] at hres
    have hx : Ext w0 w1 := by obtain ⟨_, _, _, _, _, _, _, _, _, _, hx⟩ := hres; exact hx
    obtain ⟨A_d, c_d, he⟩ : ∃ A c, e = .returned (.slice A xs.length c) := by obtain ⟨A3, c3, _, _, _, h, _⟩ := hres; exact ⟨A3, c3, h⟩
    subst he
    have HS_d := hide (hres.ints HI64.out)
    have HX_w1 := hide (HX_w0.out.trans hx)
    have ks_w1 := Nat.lt_of_lt_of_le ks_w0 hx.size
    have k0 := (hx.cells _ _ ks_w0).trans k0
    have k1 := (hx.cells _ _ ks_w0).trans k1
    clear hres hx
    go_wp2_with fail
    refine (ShaveS_any _ ds cs _ (HM0.out.ext HX_w1.out)).mono ?_
    rintro e w2 hres
    rw [← HXS.out] at hres
    have hx : Ext w1 w2 := by obtain ⟨_, _, _, _, _, _, _, _, _, _, hx⟩ := hres; exact hx
    obtain ⟨A_e, c_e, he⟩ : ∃ A c, e = .returned (.slice A xs.length c) := by obtain ⟨A3, c3, _, _, _, h, _⟩ := hres; exact ⟨A3, c3, h⟩
    subst he
    have HS_e := hide (hres.ints HI64.out)
    have HX_w2 := hide (HX_w1.out.trans hx)
    have ks_w2 := Nat.lt_of_lt_of_le ks_w1 hx.size
    have k0 := (hx.cells _ _ ks_w1).trans k0
    have k1 := (hx.cells _ _ ks_w1).trans k1
    have HS_d := hide (HS_d.out.ext hx)
    clear hres hx
    go_wp2_with fail
    refine (equalInts_any _ _ xs xs _ HS_d.out HS_e.out).mono ?_
    rintro e w3 ⟨rfl, hx⟩
    rw [show decide (xs = xs) = true by simp]
    have HX_w3 := hide (HX_w2.out.trans hx)
    have ks_w3 := Nat.lt_of_lt_of_le ks_w2 hx.size
    have k0 := (hx.cells _ _ ks_w2).trans k0
    have k1 := (hx.cells _ _ ks_w2).trans k1
    have HS_d := hide (HS_d.out.ext hx)
    have HS_e := hide (HS_e.out.ext hx)
    clear hx
    by_cases hz : xs.length = 0
    · have hzb : ((xs.length : Int) == 0) = true := by simp [hz]
      have HZ := hide hz
      clear hz
      go_wp2_with fail
      refine (ShaveS_any _ ds cs _ (HM0.out.ext HX_w3.out)).mono ?_
      rintro e w4 hres
      rw [← HXS.out] at hres
      have hx : Ext w3 w4 := by obtain ⟨_, _, _, _, _, _, _, _, _, _, hx⟩ := hres; exact hx
      obtain ⟨A_f, c_f, he⟩ : ∃ A c, e = .returned (.slice A xs.length c) := by obtain ⟨A3, c3, _, _, _, h, _⟩ := hres; exact ⟨A3, c3, h⟩
      subst he
      have HS_f := hide (hres.ints HI64.out)
      have HX_w4 := hide (HX_w3.out.trans hx)
      have ks_w4 := Nat.lt_of_lt_of_le ks_w3 hx.size
      have k0 := (hx.cells _ _ ks_w3).trans k0
      have k1 := (hx.cells _ _ ks_w3).trans k1
      have HS_d := hide (HS_d.out.ext hx)
      have HS_e := hide (HS_e.out.ext hx)
      clear hres hx
      go_wp2_with fail
      refine (equalInts_any _ _ xs xs _ HS_d.out HS_f.out).mono ?_
      rintro e w5 ⟨rfl, hx⟩
      rw [show decide (xs = xs) = true by simp]
      have HX_w5 := hide (HX_w4.out.trans hx)
      have ks_w5 := Nat.lt_of_lt_of_le ks_w4 hx.size
      have k0 := (hx.cells _ _ ks_w4).trans k0
      have k1 := (hx.cells _ _ ks_w4).trans k1
      have HS_d := hide (HS_d.out.ext hx)
      have HS_e := hide (HS_e.out.ext hx)
      have HS_f := hide (HS_f.out.ext hx)
      clear hx
      go_wp2_with fail
      go_ret
      exact Ret.mk rfl (HX0.out.trans HX_w5.out)
    · have hzb : ((xs.length : Int) == 0) = false := by rw [beq_eq_false_iff_ne]; omega
      have hv : vMod ds cs = true := by
        cases h : vMod ds cs with
        | true => rfl
        | false => exact absurd (by rw [HXS.out, shvV, h]; rfl) hz
      obtain ⟨q1, q2, q3, q4, g1, g2, g3, s1, s2, hp, h4⟩ := shave_all hv
      rw [← HXS.out] at q1
      rw [← q1] at q4 g1 s1 s2
      obtain ⟨ps, hps⟩ : ∃ ps, ps = propL cs ds := ⟨_, rfl⟩
      obtain ⟨bs, hbs⟩ : ∃ bs, bs = bbL cs ds := ⟨_, rfl⟩
      rw [← hps] at q2 g2 s1
      rw [← hbs] at q3 g3 s2
      have hxl : 0 < xs.length := by rw [g1.1]; exact hp
      have Q2 := hide q2
      have Q3 := hide q3
      have Q4 := hide q4
      have G1 := hide g1
      have G2 := hide g2
      have G3 := hide g3
      have S1 := hide s1
      have S2 := hide s2
      clear hz hv q1 q2 q3 q4 g1 g2 g3 s1 s2 hps hbs HXS
      go_wp2_with fail
      refine (PropagateI_any _ ds cs _ (HM0.out.ext HX_w3.out)).mono ?_
      rintro e w21 hres
      rw [Q2.out] at hres
      have hx : Ext w3 w21 := by obtain ⟨_, _, _, _, _, _, _, _, _, _, hx⟩ := hres; exact hx
      obtain ⟨A_p, c_p, he⟩ : ∃ A c, e = .returned (.slice A ps.length c) := by obtain ⟨A3, c3, _, _, _, h, _⟩ := hres; exact ⟨A3, c3, h⟩
      subst he
      have HS_p := hide (hres.ints G2.out.i64)
      have HX_w21 := hide (HX_w3.out.trans hx)
      have ks_w21 := Nat.lt_of_lt_of_le ks_w3 hx.size
      have k0 := (hx.cells _ _ ks_w3).trans k0
      have k1 := (hx.cells _ _ ks_w3).trans k1
      have HS_d := hide (HS_d.out.ext hx)
      have HS_e := hide (HS_e.out.ext hx)
      clear hres hx
      go_wp2_with fail
      refine (contained_any _ _ xs ps _ HS_d.out HS_p.out S1.out G1.out.2.1 G2.out.2.1).mono ?_
      rintro e w22 ⟨rfl, hx⟩
      have HX_w22 := hide (HX_w21.out.trans hx)
      have ks_w22 := Nat.lt_of_lt_of_le ks_w21 hx.size
      have k0 := (hx.cells _ _ ks_w21).trans k0
      have k1 := (hx.cells _ _ ks_w21).trans k1
      have HS_d := hide (HS_d.out.ext hx)
      have HS_e := hide (HS_e.out.ext hx)
      have HS_p := hide (HS_p.out.ext hx)
      clear hx
      go_wp2_with fail
      refine (BackboneI_any _ ds cs _ (HM0.out.ext HX_w22.out)).mono ?_
      rintro e w23 hres
      rw [Q3.out] at hres
      have hx : Ext w22 w23 := by obtain ⟨_, _, _, _, _, _, _, _, _, _, hx⟩ := hres; exact hx
      obtain ⟨A_b, c_b, he⟩ : ∃ A c, e = .returned (.slice A bs.length c) := by obtain ⟨A3, c3, _, _, _, h, _⟩ := hres; exact ⟨A3, c3, h⟩
      subst he
      have HS_b := hide (hres.ints G3.out.i64)
      have HX_w23 := hide (HX_w22.out.trans hx)
      have ks_w23 := Nat.lt_of_lt_of_le ks_w22 hx.size
      have k0 := (hx.cells _ _ ks_w22).trans k0
      have k1 := (hx.cells _ _ ks_w22).trans k1
      have HS_d := hide (HS_d.out.ext hx)
      have HS_e := hide (HS_e.out.ext hx)
      have HS_p := hide (HS_p.out.ext hx)
      clear hres hx
      go_wp2_with fail
      refine (contained_any _ _ bs xs _ HS_b.out HS_d.out S2.out G3.out.2.1 G1.out.2.1).mono ?_
      rintro e w24 ⟨rfl, hx⟩
      have HX_w24 := hide (HX_w23.out.trans hx)
      have ks_w24 := Nat.lt_of_lt_of_le ks_w23 hx.size
      have k0 := (hx.cells _ _ ks_w23).trans k0
      have k1 := (hx.cells _ _ ks_w23).trans k1
      have HS_d := hide (HS_d.out.ext hx)
      have HS_e := hide (HS_e.out.ext hx)
      have HS_p := hide (HS_p.out.ext hx)
      have HS_b := hide (HS_b.out.ext hx)
      clear hx
      go_wp2_with fail
      refine (withDomains_any _ _ ds xs cs _ (HM0.out.ext HX_w24.out) HS_d.out hxl (by have := G1.out.1; omega) HI64.out).mono ?_
      rintro e wm ⟨vm, rfl, hm, hx⟩
      obtain ⟨vd', vc', rfl, hd', hc'⟩ := hm
      have HM1 := hide (show SMod wm (.agg #[vd', vc']) xs cs from ⟨_, _, rfl, hd', hc'⟩)
      have HX_wm := hide (HX_w24.out.trans hx)
      have ks_wm := Nat.lt_of_lt_of_le ks_w24 hx.size
      have k0 := (hx.cells _ _ ks_w24).trans k0
      have k1 := (hx.cells _ _ ks_w24).trans k1
      have HS_d := hide (HS_d.out.ext hx)
      have HS_e := hide (HS_e.out.ext hx)
      have HS_p := hide (HS_p.out.ext hx)
      have HS_b := hide (HS_b.out.ext hx)
      clear hx hd' hc'
      go_wp2_with fail
      refine (ShaveI_any _ xs cs _ HM1.out).mono ?_
      rintro e w25 hres
      rw [Q4.out] at hres
      have hx : Ext wm w25 := by obtain ⟨_, _, _, _, _, _, _, _, _, _, hx⟩ := hres; exact hx
      obtain ⟨A_g, c_g, he⟩ : ∃ A c, e = .returned (.slice A xs.length c) := by obtain ⟨A3, c3, _, _, _, h, _⟩ := hres; exact ⟨A3, c3, h⟩
      subst he
      have HS_g := hide (hres.ints HI64.out)
      have HX_w25 := hide (HX_wm.out.trans hx)
      have ks_w25 := Nat.lt_of_lt_of_le ks_wm hx.size
      have k0 := (hx.cells _ _ ks_wm).trans k0
      have k1 := (hx.cells _ _ ks_wm).trans k1
      have HS_d := hide (HS_d.out.ext hx)
      have HS_e := hide (HS_e.out.ext hx)
      have HS_p := hide (HS_p.out.ext hx)
      have HS_b := hide (HS_b.out.ext hx)
      clear hres hx
      go_wp2_with fail
      refine (equalInts_any _ _ xs xs _ HS_g.out HS_d.out).mono ?_
      rintro e w26 ⟨rfl, hx⟩
      rw [show decide (xs = xs) = true by simp]
      have HX_w26 := hide (HX_w25.out.trans hx)
      have ks_w26 := Nat.lt_of_lt_of_le ks_w25 hx.size
      have k0 := (hx.cells _ _ ks_w25).trans k0
      have k1 := (hx.cells _ _ ks_w25).trans k1
      have HS_d := hide (HS_d.out.ext hx)
      have HS_e := hide (HS_e.out.ext hx)
      have HS_p := hide (HS_p.out.ext hx)
      have HS_b := hide (HS_b.out.ext hx)
      have HS_g := hide (HS_g.out.ext hx)
      clear hx
      go_wp2_with fail
      go_ret
      exact Ret.mk rfl (HX0.out.trans HX_w26.out)
end Go.Proofs.YtgeflejmdlipmaaGreat
/- FnShave returns true for all bytes. No condition. -/
namespace Go.Proofs.YtgeflejmdlipmaaGreat
open Go.ChangeShapes Go.WideShapes Go.ChangeAt Go.RowKit

theorem Tryz.ownFnShave : ownKnob Tryz.prog.godebug = none := by kernel_rfl
theorem Tryz.laidOutFnShave : laidOutB Tryz.prog = true := by kernel_rfl

set_option maxRecDepth 100000 in
theorem fnShave_lifted (os : Os) (started : os.Started) (H : Type) (enc : TypeId × Value → H) :
    ReturnsInHanded {} Tryz.checked os 3 .any (Rows.fnShaveSpec.pre6 enc Tryz.prog Tryz.f3 Rows.fnShaveRow.domain false) (Rows.fnShaveSpec.post enc Tryz.prog Tryz.f3 false true false false) := by
  refine returnsInHanded_of_change_sized (C := Tryz.checked) Tryz.ownFnShave started (by kernel_rfl) Tryz.func3
    (ChangeSpec.witness6 (enc := enc) (C := Tryz.checked) false ⟨#[], #[.slice none 0 0], []⟩ 8 (by kernel_rfl) (by kernel_rfl) (by kernel_rfl) (by kernel_rfl)) ?_
  intro W base args ds gs before hval0 hW hcnd hsz0 _
  have hval : ∀ (j : Nat) t v, Tryz.f3.params[j]? = some t → args[j]? = some v → Value.okWide Tryz.prog W .any base t v := hval0
  have hsz : (DataW.weightsEach Tryz.prog (Tryz.f3.params.toList ++ Rows.fnShaveSpec.plain.varTypes Tryz.prog) (ds ++ gs)).all (· ≤ reachBytes) = true := hsz0
  have hW' := hW
  obtain ⟨p, q, hA0, hV, rfl, hfz, hnd⟩ := hW
  have hA : DataW.TrodAll enc Tryz.prog W 0 (fun _ => true) true Tryz.f3.params.toList args.toList ds p := hA0
  rw [Tryz.params3] at hA hval hsz
  obtain ⟨v0, vs0, d0, ds0, p0, q0, hargs, rfl, rfl, h0, r0⟩ := trodAll_cons hA
  obtain ⟨rfl, rfl, rfl⟩ := trodAll_nil r0
  obtain rfl : args = #[v0] := by cases args; simp_all
  obtain ⟨rfl, rfl⟩ := trodVars_none hV
  have k0 := h0
  have lt0 : ∀ x ∈ p0, x.block < W.heap.size := by obtain ⟨m, hm⟩ := k0; exact DataW.trod_lt m _ _ _ hm
  obtain ⟨x0, hB0, hn0⟩ := bytes_of_trod Tryz.underlying22 Tryz.underlying5 (by kernel_rfl) (by kernel_rfl) (hval 0 22 v0 rfl rfl) h0
    (fun elems spare hd => sized_slice hsz (j := 0) (t := 22) (e := 5) rfl (by simp [hd]) Tryz.underlying22)
  clear hA0 hval0 hsz0
  refine (lawShave v0 x0 W hB0 hn0).mono fun e W' ⟨he, bel⟩ => ?_
  subst he
  exact ⟨_, rfl, _, _, _, [], _, [], hW', trodAll_mk1 (shut_bool Tryz.underlying4 _), (trodAll_cons_mk (Below.trod Tryz.laidOutFnShave (by kernel_rfl) (of_decide_eq_true (by kernel_rfl)) k0 bel lt0) trodAll_mk0), rfl, Below.frame bel _, fun h => by cases h⟩

theorem fnShave_holds : Rows.FnShaveSaid :=
  OpenClaim.holds_of_wide 3 Tryz.f3 rfl rfl rfl rfl rfl rfl rfl ⟨rfl, rfl, rfl, rfl, rfl⟩ rfl rfl rfl rfl rfl (by kernel_rfl) Tryz.func3 (by kernel_rfl)
    (of_decide_eq_true (by kernel_rfl)) (by unfold Func.isWrapper; first | (rw [if_pos (by decide +kernel)]; kernel_rfl) | (rw [if_neg (by decide +kernel)]; exact ⟨rfl, rfl⟩))
    (fun os started H enc _ => fnShave_lifted os started H enc)
#print axioms fnShave_holds
end Go.Proofs.YtgeflejmdlipmaaGreat
