/- The law's walk: FnExactIsNogood returns true. -/
import Derived.Test.YtepmaclbeggpfaaGreatSolW
import Derived.Test.YtepmaclbeggpfaaGreatLawM
namespace Go.Proofs.YtepmaclbeggpfaaGreat
open Go.RowKit
attribute [local go_sem] evalOf

set_option maxRecDepth 100000 in
set_option maxHeartbeats 16000000 in
theorem lawFnExactIsNogood (v0 : Value) (v1 : Value) (x0 : List Int × List Con) (x1 : List Lt) (w : World) (hP0 : SMod w v0 x0.1 x0.2) (hP1 : SLt w v1 x1) :
    Calls Tryz.prog 4 #[v0, v1] w (Ret (.bool true) w) := by
  obtain ⟨ds0, cs0⟩ := x0
  simp only at hP0
  have HOK0 := hide hP0.ok
  have HP0 := hide hP0
  obtain ⟨ve0, vc0, rfl, hE0, hC0⟩ := hP0
  obtain ⟨Ae0, ce0, rfl, -, hle0⟩ := hE0.form
  obtain ⟨Ac0, cc0, rfl, -, hlc0⟩ := hC0.form
  clear hE0 hC0
  have HY1 := hide (show x1.length * 24 ≤ 140737488355328 by obtain ⟨A, c, -, -, h, -⟩ := hP1; exact h)
  have HP1 := hide hP1
  obtain ⟨A1, c1, rfl, -, hl1⟩ := hP1.form
  clear hP1
  obtain ⟨w0, hw0⟩ : ∃ w0, w0 = w.alloc (.cells #[.slice Ae0 ds0.length ce0, .slice Ac0 cs0.length cc0] 25) := ⟨_, rfl⟩
  have hx0 : Ext w w0 := by rw [hw0]; exact (Ext.refl w).alloc _
  have hs0 : w0.heap.size = w.heap.size + 1 := by rw [hw0]; simp
  have K0_0 := hide (show w0.cell? ⟨w.heap.size, 0, none⟩ = some (.slice Ae0 ds0.length ce0) by rw [hw0]; go_simp)
  have K0_1 := hide (show w0.cell? ⟨w.heap.size, 1, none⟩ = some (.slice Ac0 cs0.length cc0) by rw [hw0]; go_simp)
  have ks0 : w.heap.size < w0.heap.size := by omega
  have HX0 := hide hx0
  have HB0 := hide (Ext.refl w0)
  clear hx0
  have k0_0 := K0_0.out
  have k0_1 := K0_1.out
  have hbb : ((ngV ds0 cs0 x1) != (ngV ds0 cs0 x1)) = false := by simp
  go_enter Tryz.func4, Tryz.ntmps4
  go_wp2_with fail
  try rw [← hw0]
  clear hw0
  refine (szModel_any _ ds0 cs0 _ _ (HP0.out.ext (HX0.out)) (by omega) (by omega)).mono ?_
  rintro e w1 ⟨r0, rfl, hr0, hx1⟩
  have HX1 := hide (HX0.out.trans hx1)
  have HB1 := hide (HB0.out.trans hx1)
  clear hx1
  clear k0_0 k0_1
  rcases hr0 with rfl | ⟨hr0, hrr0⟩
  · go_wp2
    go_ret
    exact Ret.mk rfl HX1.out
  have hnr0 : ¬ (r0 < 0) := by omega
  have hle0 : r0 ≤ 1048576 := by omega
  have HRR0 := hide hrr0
  clear hrr0
  go_wp2_with fail
  refine (szLiteralS_any _ x1 _ _ (HP1.out.ext (HX1.out)) (by omega) (by omega)).mono ?_
  rintro e w2 ⟨rfl, rfl⟩
  have HX2 := HX1
  have HB2 := HB1
  by_cases hf1 : (x1.length : Int) ≤ r0
  case neg =>
    have e1 : left0 r0 x1.length = -1 := by rw [left0, if_neg hf1]
    rw [e1]
    go_wp2
    go_ret
    exact Ret.mk rfl HX2.out
  obtain ⟨r1, hr1⟩ : ∃ r, r = left0 r0 x1.length := ⟨_, rfl⟩
  have hrr1 : r1 = r0 - x1.length := by rw [hr1, left0_pos hf1]
  rw [← hr1]
  clear hr1
  have hnr1 : ¬ (r1 < 0) := by omega
  have hr1 : 0 ≤ r1 := by omega
  have hle1 : r1 ≤ 1048576 := by omega
  have HRR1 := hide hrr1
  clear hrr1
  have k0_0 := (HB2.out.cells _ _ ks0).trans K0_0.out
  have k0_1 := (HB2.out.cells _ _ ks0).trans K0_1.out
  go_wp2_with fail
  refine (toModel_any _ ds0 cs0 _ (HP0.out.ext (HX2.out))).mono ?_
  rintro e w3 ⟨bd3, bo3, F3, rfl, hcm3, hx3⟩
  have HC3 := hide (hcm3.smod HOK0.out)
  have HX3 := hide (HX2.out.trans hx3)
  have HB3 := hide (HB2.out.trans hx3)
  clear hx3 hcm3
  clear k0_0 k0_1
  have HC33 := hide (Ext.refl w3)
  go_wp2_with fail
  refine (toLiteralS_any _ x1 _ (HP1.out.ext (HX3.out))).mono ?_
  rintro e w4 ⟨b4, -, rfl, hr4, hx4⟩
  have HC4 := hide (SLt.of_row hr4 HY1.out)
  have HX4 := hide (HX3.out.trans hx4)
  have HB4 := hide (HB3.out.trans hx4)
  have HC34 := hide (HC33.out.trans hx4)
  clear hx4  hr4
  have HC44 := hide (Ext.refl w4)
  go_wp2_with fail
  refine (IsNogoodS_any _ _ ds0 cs0 x1 _ (HC3.out.ext (HC34.out)) (HC4.out.ext (HC44.out))).mono ?_
  rintro e w5 ⟨rfl, hx5⟩
  have HX5 := hide (HX4.out.trans hx5)
  have HB5 := hide (HB4.out.trans hx5)
  have HC35 := hide (HC34.out.trans hx5)
  have HC45 := hide (HC44.out.trans hx5)
  clear hx5
  have k0_0 := (HB5.out.cells _ _ ks0).trans K0_0.out
  have k0_1 := (HB5.out.cells _ _ ks0).trans K0_1.out
  go_wp2_with fail
  refine (toModel_any _ ds0 cs0 _ (HP0.out.ext (HX5.out))).mono ?_
  rintro e w6 ⟨bd6, bo6, F6, rfl, hcm6, hx6⟩
  have HC6 := hide (hcm6.smod HOK0.out)
  have HX6 := hide (HX5.out.trans hx6)
  have HB6 := hide (HB5.out.trans hx6)
  have HC36 := hide (HC35.out.trans hx6)
  have HC46 := hide (HC45.out.trans hx6)
  clear hx6 hcm6
  clear k0_0 k0_1
  have HC66 := hide (Ext.refl w6)
  rw [modV] at HC6 ⊢
  go_wp2_with fail
  obtain ⟨z6, hz6⟩ : ∃ z, z = w6.alloc (.cells #[.slice (some ⟨bd6, 0, none⟩) ds0.length ds0.length, .slice (some ⟨bo6, 0, none⟩) cs0.length cs0.length] 32) := ⟨_, rfl⟩
  have hxz6 : Ext w6 z6 := by rw [hz6]; exact (Ext.refl w6).alloc _
  have U6_0 := hide (show z6.cell? ⟨w6.heap.size, 0, none⟩ = some (.slice (some ⟨bd6, 0, none⟩) ds0.length ds0.length) by rw [hz6]; go_simp)
  have U6_1 := hide (show z6.cell? ⟨w6.heap.size, 1, none⟩ = some (.slice (some ⟨bo6, 0, none⟩) cs0.length cs0.length) by rw [hz6]; go_simp)
  have us6 : w6.heap.size < z6.heap.size := by rw [hz6]; simp
  rw [← hz6]
  have HX7 := hide (HX6.out.trans hxz6)
  have HB7 := hide (HB6.out.trans hxz6)
  have HC37 := hide (HC36.out.trans hxz6)
  have HC47 := hide (HC46.out.trans hxz6)
  have HC67 := hide (HC66.out.trans hxz6)
  clear hz6 hxz6
  have HU67 := hide (Ext.refl z6)
  refine (toLiteralS_any _ x1 _ (HP1.out.ext (HX7.out))).mono ?_
  rintro e w7 ⟨b7, -, rfl, hr7, hx7⟩
  have HC7 := hide (SLt.of_row hr7 HY1.out)
  have HX8 := hide (HX7.out.trans hx7)
  have HB8 := hide (HB7.out.trans hx7)
  have HC38 := hide (HC37.out.trans hx7)
  have HC48 := hide (HC47.out.trans hx7)
  have HC68 := hide (HC67.out.trans hx7)
  have HU68 := hide (HU67.out.trans hx7)
  clear hx7  hr7
  have HC78 := hide (Ext.refl w7)
  have u6_0 := (HU68.out.cells _ _ us6).trans U6_0.out
  have u6_1 := (HU68.out.cells _ _ us6).trans U6_1.out
  go_wp2_with fail
  refine (IsNogoodI_any _ _ ds0 cs0 x1 _ (HC6.out.ext (HC68.out)) (HC7.out.ext (HC78.out))).mono ?_
  rintro e w9 ⟨rfl, hx9⟩
  have HX9 := hide (HX8.out.trans hx9)
  have HB9 := hide (HB8.out.trans hx9)
  have HC39 := hide (HC38.out.trans hx9)
  have HC49 := hide (HC48.out.trans hx9)
  have HC69 := hide (HC68.out.trans hx9)
  have HU69 := hide (HU68.out.trans hx9)
  have HC79 := hide (HC78.out.trans hx9)
  clear hx9
  clear u6_0 u6_1
  go_wp2_with fail
  -- region 14
  refine wp_region_relT (n := 5) (ts := []) (sp := [RS.q [] (fun _ => .agg #[.slice (some ⟨bd6, 0, none⟩) ds0.length ds0.length, .slice (some ⟨bo6, 0, none⟩) cs0.length cs0.length]), RS.q [] (fun _ => .agg #[.slice Ae0 ds0.length ce0, .slice Ac0 cs0.length cc0]), RS.p [1] (fun v W => SMod W v ds0 cs0) (fun _ _ _ h hx => SMod.ext h hx), RS.q [0, 2] (fun _ => .bool (true)), RS.q [3] (fun _ => .bool (false))])
    (fun W => Ext w9 W) (by kernel_rfl) (relOK (D := [[], [], [1], [0, 2], [3]]) rfl (by kernel_rfl) rfl) (by kernel_rfl) (fun W W' h hx => h.trans hx) (Ext.refl w9).drew ?steps14 ?ends14
  case steps14 =>
    refine ⟨?_, ?_, ?_, ?_, ?_, trivial⟩
    · intro V τ W hC hf ht h0
      have s : τ 7 = .pointer (some ⟨w6.heap.size, 0, none⟩) := h0 7 (by kernel_rfl)
      have u6_0 := ((HU69.out.trans hC).cells _ _ us6).trans U6_0.out
      have u6_1 := ((HU69.out.trans hC).cells _ _ us6).trans U6_1.out
      refine Does.val (w' := W) (v := .agg #[.slice (some ⟨bd6, 0, none⟩) ds0.length ds0.length, .slice (some ⟨bo6, 0, none⟩) cs0.length cs0.length]) ?_ ⟨Ext.refl W, rfl⟩
      go_simp
    · intro V τ W hC hf ht h0
      have s : τ 2 = .pointer (some ⟨w.heap.size, 0, none⟩) := h0 2 (by kernel_rfl)
      have k0_0 := ((HB9.out.trans hC).cells _ _ ks0).trans K0_0.out
      have k0_1 := ((HB9.out.trans hC).cells _ _ ks0).trans K0_1.out
      refine Does.val (w' := W) (v := .agg #[.slice Ae0 ds0.length ce0, .slice Ac0 cs0.length cc0]) ?_ ⟨Ext.refl W, rfl⟩
      go_simp
    · intro V τ W hC hf ht h0
      have f1 : V 1 = .agg #[.slice Ae0 ds0.length ce0, .slice Ac0 cs0.length cc0] := hf 1 (show 1 ∈ [1] by decide)
      have s36 : τ 36 = .agg #[.slice Ae0 ds0.length ce0, .slice Ac0 cs0.length cc0] := (ht 1 (show 1 ∈ [1] by decide) 36 rfl).trans f1
      refine Does.call (w' := W) (f := 10) (args := #[.agg #[.slice Ae0 ds0.length ce0, .slice Ac0 cs0.length cc0]]) (by go_simp; all_goals (first | exact rfl | (apply And.intro <;> exact rfl))) ?_
      refine (toModel_any _ ds0 cs0 _ (HP0.out.ext (HX9.out.trans hC))).mono ?_
      rintro e wa ⟨bdq, boq, Fq, rfl, hcmq, hxq⟩
      exact ⟨_, rfl, hxq, hcmq.smod HOK0.out⟩
    · intro V τ W hC hf ht h0
      have f0 : V 0 = .agg #[.slice (some ⟨bd6, 0, none⟩) ds0.length ds0.length, .slice (some ⟨bo6, 0, none⟩) cs0.length cs0.length] := hf 0 (show 0 ∈ [0, 2] by decide)
      have s35 : τ 35 = .agg #[.slice (some ⟨bd6, 0, none⟩) ds0.length ds0.length, .slice (some ⟨bo6, 0, none⟩) cs0.length cs0.length] := (ht 0 (show 0 ∈ [0, 2] by decide) 35 rfl).trans f0
      have g2 : SMod W (V 2) ds0 cs0 := hf 2 (show 2 ∈ [0, 2] by decide)
      have s37 : τ 37 = V 2 := ht 2 (show 2 ∈ [0, 2] by decide) 37 rfl
      refine Does.call (w' := W) (f := 13) (args := #[.agg #[.slice (some ⟨bd6, 0, none⟩) ds0.length ds0.length, .slice (some ⟨bo6, 0, none⟩) cs0.length cs0.length], V 2]) (by go_simp; all_goals (first | exact rfl | (apply And.intro <;> exact rfl))) ?_
      refine (eqModel_same _ _ ds0 cs0 _ ((HC6.out.ext HC69.out).ext hC) (g2)).mono ?_
      rintro e wa ⟨rfl, hxa⟩
      exact ⟨_, rfl, hxa, rfl⟩
    · intro V τ W hC hf ht h0
      have f3 : V 3 = .bool (true) := hf 3 (show 3 ∈ [3] by decide)
      have s38 := (ht 3 (show 3 ∈ [3] by decide) 38 rfl).trans f3
      refine Does.val (w' := W) (v := .bool (false)) ?_ ⟨Ext.refl W, rfl⟩
      go_simp
  intro V w10 hC hf
  have f0 : V 0 = .agg #[.slice (some ⟨bd6, 0, none⟩) ds0.length ds0.length, .slice (some ⟨bo6, 0, none⟩) cs0.length cs0.length] := hf 0 (by omega)
  have f1 : V 1 = .agg #[.slice Ae0 ds0.length ce0, .slice Ac0 cs0.length cc0] := hf 1 (by omega)
  obtain ⟨ga2, gb2, f2, -, -⟩ := (show SMod _ (V 2) ds0 cs0 from hf 2 (by omega))
  have f3 : V 3 = .bool (true) := hf 3 (by omega)
  have f4 : V 4 = .bool (false) := hf 4 (by omega)
  clear hf
  simp only [List.take_succ_cons, List.take_zero, putAll, Act.put, List.setIfInBounds_toArray, List.set_cons_succ, List.set_cons_zero, Nat.reduceAdd, f0, f1, f2, f3, f4]
  simp only [nths]
  clear f0 f1 f2 f3 f4
  have HX10 := hide (HX9.out.trans hC)
  have HB10 := hide (HB9.out.trans hC)
  have HC310 := hide (HC39.out.trans hC)
  have HC410 := hide (HC49.out.trans hC)
  have HC610 := hide (HC69.out.trans hC)
  have HU610 := hide (HU69.out.trans hC)
  have HC710 := hide (HC79.out.trans hC)
  clear hC
  go_wp2_with fail
  refine (toLiteralS_any _ x1 _ (HP1.out.ext (HX10.out))).mono ?_
  rintro e w11 ⟨b11, -, rfl, hr11, hx11⟩
  have HC11 := hide (SLt.of_row hr11 HY1.out)
  have HX11 := hide (HX10.out.trans hx11)
  have HB11 := hide (HB10.out.trans hx11)
  have HC311 := hide (HC310.out.trans hx11)
  have HC411 := hide (HC410.out.trans hx11)
  have HC611 := hide (HC610.out.trans hx11)
  have HU611 := hide (HU610.out.trans hx11)
  have HC711 := hide (HC710.out.trans hx11)
  clear hx11  hr11
  have HC1111 := hide (Ext.refl w11)
  go_wp2_with fail
  refine (eqLiteralS_same _ _ x1 _ (HC7.out.ext (HC711.out)) (HC11.out.ext (HC1111.out))).mono ?_
  rintro e w12 ⟨rfl, hx12⟩
  have HX12 := hide (HX11.out.trans hx12)
  have HB12 := hide (HB11.out.trans hx12)
  have HC312 := hide (HC311.out.trans hx12)
  have HC412 := hide (HC411.out.trans hx12)
  have HC612 := hide (HC611.out.trans hx12)
  have HU612 := hide (HU611.out.trans hx12)
  have HC712 := hide (HC711.out.trans hx12)
  have HC1112 := hide (HC1111.out.trans hx12)
  clear hx12
  go_wp2
  go_ret
  exact Ret.mk rfl HX12.out
end Go.Proofs.YtepmaclbeggpfaaGreat
