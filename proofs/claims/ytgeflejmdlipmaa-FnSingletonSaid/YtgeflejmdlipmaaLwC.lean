/- What the laws call: IsConsistent of the program. Printed by genlwc.py. -/
import Derived.Test.YtgeflejmdlipmaaLwZ
import Derived.Deep.CutBlock
import Derived.Deep.DeepCutAuto
namespace Go.Proofs.Ytgeflejmdlipmaa
open Go.RowKit
attribute [local go_sem] evalOf

set_option maxRecDepth 100000 in
set_option maxHeartbeats 4000000 in
theorem isCon1_any (c : Con) (vv va vr : Value) (Ad : Option Addr) (cd bm : Nat) (ds : List Int) (w : World) (hV : SInts w vv c.vars) (hA : SInts w va c.args) (hR : SRows w vr c.rows)
    (hm : w.cell? ⟨bm, 0, none⟩ = some (.slice Ad ds.length cd)) (hbm : bm < w.heap.size) (hD : SInts w (.slice Ad ds.length cd) ds) (hv : vCon c ds.length = true) (hd : DomL ds) :
    Calls Try.prog 42 #[.agg #[.int .i64 c.kk, vv, va, .int .i64 c.bound, vr], .pointer (some ⟨bm, 0, none⟩)] w (Ret (.bool (!decide (filtL c ds = ds))) w) := by
  have HV := hide hv
  have HDL := hide hd
  have hg : GoodD [c] ds.length ds := ⟨rfl, hd, fun i hi => by obtain rfl : i = 0 := by simpa using hi
                                                               exact hv⟩
  have HFI := hide ((hg.filt (i := 0) (by simp)).1.i64)
  obtain ⟨Av, cv, rfl, -, hlv⟩ := hV.form
  obtain ⟨Aa, ca, rfl, -, hla⟩ := hA.form
  obtain ⟨Ar, cr, rfl, -, hlr⟩ := hR.form
  obtain ⟨W1, hW1⟩ : ∃ W1, W1 = w.alloc (.cells #[.int .i64 c.kk, .slice Av c.vars.length cv, .slice Aa c.args.length ca, .int .i64 c.bound, .slice Ar c.rows.length cr] 54) := ⟨_, rfl⟩
  have hx1 : Ext w W1 := by rw [hW1]; exact (Ext.refl w).alloc _
  have hs1 : w.heap.size < W1.heap.size := by rw [hW1]; simp
  have hbm1 : bm < W1.heap.size := Nat.lt_of_lt_of_le hbm hx1.size
  have m0 := (hx1.cells _ _ hbm).trans hm
  have c0 : W1.cell? ⟨w.heap.size, 0, none⟩ = some (.int .i64 c.kk) := by rw [hW1]; exact World.cell?_alloc_at _ _ _ _ rfl
  have c1 : W1.cell? ⟨w.heap.size, 1, none⟩ = some (.slice Av c.vars.length cv) := by rw [hW1]; exact World.cell?_alloc_at _ _ _ _ rfl
  have c2 : W1.cell? ⟨w.heap.size, 2, none⟩ = some (.slice Aa c.args.length ca) := by rw [hW1]; exact World.cell?_alloc_at _ _ _ _ rfl
  have c3 : W1.cell? ⟨w.heap.size, 3, none⟩ = some (.int .i64 c.bound) := by rw [hW1]; exact World.cell?_alloc_at _ _ _ _ rfl
  have c4 : W1.cell? ⟨w.heap.size, 4, none⟩ = some (.slice Ar c.rows.length cr) := by rw [hW1]; exact World.cell?_alloc_at _ _ _ _ rfl
  have HX1 := hide hx1
  have HD1 := hide (hD.ext hx1)
  have HC1 := hide (show SCon W1 (.agg #[.int .i64 c.kk, .slice Av c.vars.length cv, .slice Aa c.args.length ca, .int .i64 c.bound, .slice Ar c.rows.length cr]) c from ⟨_, _, _, rfl, hV.ext hx1, hA.ext hx1, hR.ext hx1⟩)
  clear hV hA hR hD hx1 hm hv hd hg
  go_enter Try.func42, Try.ntmps42
  go_upto_region 1 with fail
  rw [← hW1]
  clear hW1
  refine wp_region_relT (n := 9) (ts := []) (sp := [RS.q [] (fun _ => .agg #[.int .i64 c.kk, .slice Av c.vars.length cv, .slice Aa c.args.length ca, .int .i64 c.bound, .slice Ar c.rows.length cr]), RS.q [] (fun _ => .pointer (some ⟨bm, 0, none⟩)), RS.q [1] (fun _ => .slice Ad ds.length cd), RS.ow [0, 2] (filtL c ds) W1, RS.q [] (fun _ => .pointer (some ⟨bm, 0, none⟩)), RS.q [4] (fun _ => .slice Ad ds.length cd), RS.q [3, 5] (fun _ => .bool (decide (filtL c ds = ds))), RS.q [6] (fun _ => .bool (!decide (filtL c ds = ds))), RS.q [7] (fun _ => .bool (!decide (filtL c ds = ds)))])
    (fun W => Ext W1 W) (by kernel_rfl) (relOK (D := [[], [], [1], [0, 2], [], [4], [3, 5], [6], [7]]) rfl (by kernel_rfl) rfl) (by kernel_rfl) (fun W W' h hx => h.trans hx) ((Ext.refl W1).drew) ?steps ?ends
  case steps =>
    refine ⟨?_, ?_, ?_, ?_, ?_, ?_, ?_, ?_, ?_, trivial⟩
    · intro V τ W hC hf ht h0
      have s2 : τ 2 = .pointer (some ⟨w.heap.size, 0, none⟩) := h0 2 (by kernel_rfl)
      have c0 := (hC.cells _ _ hs1).trans c0
      have c1 := (hC.cells _ _ hs1).trans c1
      have c2 := (hC.cells _ _ hs1).trans c2
      have c3 := (hC.cells _ _ hs1).trans c3
      have c4 := (hC.cells _ _ hs1).trans c4
      refine Does.val (w' := W) (v := .agg #[.int .i64 c.kk, .slice Av c.vars.length cv, .slice Aa c.args.length ca, .int .i64 c.bound, .slice Ar c.rows.length cr]) ?_ ⟨Ext.refl W, rfl⟩
      clear h0 ht hf
      go_simp
    · intro V τ W hC hf ht h0
      have s1 : τ 1 = .pointer (some ⟨bm, 0, none⟩) := h0 1 (by kernel_rfl)
      refine Does.val (w' := W) (v := .pointer (some ⟨bm, 0, none⟩)) ?_ ⟨Ext.refl W, rfl⟩
      clear h0 ht hf
      go_simp
    · intro V τ W hC hf ht h0
      have f1 : V 1 = .pointer (some ⟨bm, 0, none⟩) := hf 1 (show 1 ∈ [1] by decide)
      have s5 := (ht 1 (show 1 ∈ [1] by decide) 5 rfl).trans f1
      have m0 := (hC.cells _ _ hbm1).trans m0
      refine Does.val (w' := W) (v := .slice Ad ds.length cd) ?_ ⟨Ext.refl W, rfl⟩
      clear h0 ht hf
      go_simp
    · intro V τ W hC hf ht h0
      have f0 : V 0 = .agg #[.int .i64 c.kk, .slice Av c.vars.length cv, .slice Aa c.args.length ca, .int .i64 c.bound, .slice Ar c.rows.length cr] := hf 0 (show 0 ∈ [0, 2] by decide)
      have s4 := (ht 0 (show 0 ∈ [0, 2] by decide) 4 rfl).trans f0
      have f2 : V 2 = .slice Ad ds.length cd := hf 2 (show 2 ∈ [0, 2] by decide)
      have s6 := (ht 2 (show 2 ∈ [0, 2] by decide) 6 rfl).trans f2
      refine Does.call (w' := W) (f := 44) (args := #[.agg #[.int .i64 c.kk, .slice Av c.vars.length cv, .slice Aa c.args.length ca, .int .i64 c.bound, .slice Ar c.rows.length cr], .slice Ad ds.length cd]) (by go_simp; all_goals (first | exact rfl | (apply And.intro <;> exact rfl))) ?_
      have hx : Ext W1 W := hC
      refine (filter_any (.agg #[.int .i64 c.kk, .slice Av c.vars.length cv, .slice Aa c.args.length ca, .int .i64 c.bound, .slice Ar c.rows.length cr]) (.slice Ad ds.length cd) c ds W (HC1.out.ext hx) (HD1.out.ext hx) HV.out HDL.out).mono ?_
      rintro e wa hres
      have hr2 := OwnRes.from hres hC
      obtain ⟨A3, c3, b3, m3, f3, rfl, -, -, -, -, hxa⟩ := hres
      exact ⟨_, rfl, hxa, hr2⟩
    · intro V τ W hC hf ht h0
      have s1 : τ 1 = .pointer (some ⟨bm, 0, none⟩) := h0 1 (by kernel_rfl)
      refine Does.val (w' := W) (v := .pointer (some ⟨bm, 0, none⟩)) ?_ ⟨Ext.refl W, rfl⟩
      clear h0 ht hf
      go_simp
    · intro V τ W hC hf ht h0
      have f4 : V 4 = .pointer (some ⟨bm, 0, none⟩) := hf 4 (show 4 ∈ [4] by decide)
      have s8 := (ht 4 (show 4 ∈ [4] by decide) 8 rfl).trans f4
      have m0 := (hC.cells _ _ hbm1).trans m0
      refine Does.val (w' := W) (v := .slice Ad ds.length cd) ?_ ⟨Ext.refl W, rfl⟩
      clear h0 ht hf
      go_simp
    · intro V τ W hC hf ht h0
      have f3 : OwnRes (filtL c ds) W1 (.returned (V 3)) W := hf 3 (show 3 ∈ [3, 5] by decide)
      have s7 : τ 7 = V 3 := ht 3 (show 3 ∈ [3, 5] by decide) 7 rfl
      have f5 : V 5 = .slice Ad ds.length cd := hf 5 (show 5 ∈ [3, 5] by decide)
      have s9 := (ht 5 (show 5 ∈ [3, 5] by decide) 9 rfl).trans f5
      have hx : Ext W1 W := hC
      have F3 := hide (f3.ints HFI.out)
      clear f3 hf ht h0
      refine Does.call (w' := W) (f := 43) (args := #[V 3, .slice Ad ds.length cd]) (by go_simp; all_goals (first | exact rfl | (apply And.intro <;> exact rfl))) ?_
      refine (EqualI_any (V 3) (.slice Ad ds.length cd) (filtL c ds) ds W F3.out (HD1.out.ext hx)).mono ?_
      rintro e wa ⟨rfl, hxa⟩
      exact ⟨_, rfl, hxa, rfl⟩
    · intro V τ W hC hf ht h0
      have f6 : V 6 = .bool (decide (filtL c ds = ds)) := hf 6 (show 6 ∈ [6] by decide)
      have s10 := (ht 6 (show 6 ∈ [6] by decide) 10 rfl).trans f6
      refine Does.val (w' := W) (v := .bool (!decide (filtL c ds = ds))) ?_ ⟨Ext.refl W, rfl⟩
      clear h0 ht hf
      go_simp
    · intro V τ W hC hf ht h0
      have f7 : V 7 = .bool (!decide (filtL c ds = ds)) := hf 7 (show 7 ∈ [7] by decide)
      have s11 := (ht 7 (show 7 ∈ [7] by decide) 11 rfl).trans f7
      refine Does.val (w' := W) (v := .bool (!decide (filtL c ds = ds))) ?_ ⟨Ext.refl W, rfl⟩
      clear h0 ht hf
      go_simp
  case ends =>
    intro V W hC hf
    have e0 : V 0 = .agg #[.int .i64 c.kk, .slice Av c.vars.length cv, .slice Aa c.args.length ca, .int .i64 c.bound, .slice Ar c.rows.length cr] := hf 0 (by omega)
    have e1 : V 1 = .pointer (some ⟨bm, 0, none⟩) := hf 1 (by omega)
    have e2 : V 2 = .slice Ad ds.length cd := hf 2 (by omega)
    have e3 : OwnRes (filtL c ds) W1 (.returned (V 3)) W := hf 3 (by omega)
    have e4 : V 4 = .pointer (some ⟨bm, 0, none⟩) := hf 4 (by omega)
    have e5 : V 5 = .slice Ad ds.length cd := hf 5 (by omega)
    have e6 : V 6 = .bool (decide (filtL c ds = ds)) := hf 6 (by omega)
    have e7 : V 7 = .bool (!decide (filtL c ds = ds)) := hf 7 (by omega)
    have e8 : V 8 = .bool (!decide (filtL c ds = ds)) := hf 8 (by omega)
    clear hf
    obtain ⟨A9, c9, e3⟩ := e3.form
    generalize (filtL c ds).length = L9 at e3
    have HXE := hide (HX1.out.trans hC)
    simp only [List.take_succ_cons, List.take_zero, putAll, Act.put, List.setIfInBounds_toArray, List.set_cons_succ, List.set_cons_zero, Nat.reduceAdd, e0, e1, e2, e3, e4, e5, e6, e7, e8]
    simp only [nths]
    clear e0 e1 e2 e3 e4 e5 e6 e7 e8 hC
    go_wp2_with fail
    go_ret
    exact Ret.mk rfl HXE.out
/-- The value of IsConsistent. -/
def iscV (ds : List Int) (cs : List Con) : Bool := vMod ds cs && (!hasI ds 0 && !anyB (fun i => !decide (filtL (con0 cs i) ds = ds)) cs.length)
set_option maxRecDepth 100000 in
set_option maxHeartbeats 4000000 in
theorem IsConsistentI_any (v : Value) (ds : List Int) (cs : List Con) (w : World) (hM : SMod w v ds cs) :
    Calls Try.prog 17 #[v] w (Ret (.bool (iscV ds cs)) w) := by
  obtain ⟨ve, vc, rfl, hE, hC⟩ := hM
  obtain ⟨Ae, ce, rfl, -, hle⟩ := hE.form
  obtain ⟨Ac, cc, rfl, -, hlc⟩ := hC.form
  obtain ⟨w0, hw0⟩ : ∃ w0, w0 = w.alloc (.cells #[.slice Ae ds.length ce, .slice Ac cs.length cc] 26) := ⟨_, rfl⟩
  have hx0 : Ext w w0 := by rw [hw0]; exact (Ext.refl w).alloc _
  have k0 : w0.cell? ⟨w.heap.size, 0, none⟩ = some (.slice Ae ds.length ce) := by rw [hw0]; go_simp
  have k1 : w0.cell? ⟨w.heap.size, 1, none⟩ = some (.slice Ac cs.length cc) := by rw [hw0]; go_simp
  have ks : w.heap.size < w0.heap.size := by rw [hw0]; simp
  have HX0 := hide hx0
  have hE0 := hide (hE.ext hx0)
  have hC0 := hide (hC.ext hx0)
  clear hE hC hx0
  go_enter Try.func17, Try.ntmps17
  go_wp2_with fail
  rw [← hw0]
  clear hw0
  refine (ValidModelI_any _ _ ds cs _ hE0.out hC0.out (fun i _ => fits_all _)).mono ?_
  rintro e w1 ⟨rfl, hx1⟩
  have HX1 := hide hx1
  have k0 := (hx1.cells _ _ ks).trans k0
  have k1 := (hx1.cells _ _ ks).trans k1
  have ks := Nat.lt_of_lt_of_le ks hx1.size
  clear hx1
  cases hv : vMod ds cs with
  | false =>
    have HV := hide (show iscV ds cs = false by rw [iscV, hv]; rfl)
    clear hv
    go_wp2
    go_ret
    exact Ret.mk (ret_b HV.out.symm) (HX0.out.trans HX1.out)
  | true =>
    obtain ⟨hG, hp, h4⟩ := vMod_good hv
    have HG := hide hG
    cases h0 : hasI ds 0 with
    | true =>
      have HV := hide (show iscV ds cs = false by rw [iscV, hv, h0]; rfl)
      have H0 := hide h0
      clear hv h0 hG
      go_wp2_with (go_at_call 33; refine (Contains_any _ ds _ _ (hE0.out.ext HX1.out)).mono ?_; rintro e w' ⟨rfl, rfl⟩; rw [H0.out])
      go_ret
      exact Ret.mk (ret_b HV.out.symm) (HX0.out.trans HX1.out)
    | false =>
      have HV := hide (show iscV ds cs = !anyB (fun i => !decide (filtL (con0 cs i) ds = ds)) cs.length by rw [iscV, hv, h0]; rfl)
      have H0 := hide h0
      have K0 := hide k0
      clear hv h0 hG
      go_wp2_with (go_at_call 33; refine (Contains_any _ ds _ _ (hE0.out.ext HX1.out)).mono ?_; rintro e w' ⟨rfl, rfl⟩; rw [H0.out])
      refine (ContainsFuncC_any _ cs 42 #[.pointer (some ⟨w.heap.size, 0, none⟩)] (fun i => !decide (filtL (con0 cs i) ds = ds)) _ (hC0.out.ext HX1.out) (callFunc_body Try.func42 (by decide) rfl) (hide fun i hi vv va vr W hW h1 h2 h3 => ?_)).mono ?_
      · exact isCon1_any (con0 cs i) vv va vr Ae ce w.heap.size ds W h1 h2 h3 ((hW.cells _ _ ks).trans K0.out) (Nat.lt_of_lt_of_le ks hW.size) ((hE0.out.ext HX1.out).ext hW) (HG.out.2.2 i hi) HG.out.2.1
      rintro e w3 ⟨rfl, hx3⟩
      have HX3 := hide ((HX0.out.trans HX1.out).trans hx3)
      clear hx3
      go_wp2
      go_ret
      exact Ret.mk (ret_b HV.out.symm) HX3.out
end Go.Proofs.Ytgeflejmdlipmaa
