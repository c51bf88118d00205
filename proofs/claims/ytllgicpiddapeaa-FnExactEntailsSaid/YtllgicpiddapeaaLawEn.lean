/- The law's walk: FnExactEntails returns true. -/
import Derived.Test.YtllgicpiddapeaaEntW
import Derived.Test.YtllgicpiddapeaaLawM
namespace Go.Proofs.Ytllgicpiddapeaa
open Go.RowKit
attribute [local go_sem] evalOf

set_option maxRecDepth 100000 in
set_option maxHeartbeats 16000000 in
theorem lawFnExactEntails (v0 : Value) (v1 : Value) (x0 : List Int × List Con) (x1 : List Int × List Con) (w : World) (hP0 : SMod w v0 x0.1 x0.2) (hP1 : SMod w v1 x1.1 x1.2) :
    Calls Try.prog 3 #[v0, v1] w (Ret (.bool true) w) := by
  obtain ⟨ds0, cs0⟩ := x0
  simp only at hP0
  have HOK0 := hide hP0.ok
  have HP0 := hide hP0
  obtain ⟨ve0, vc0, rfl, hE0, hC0⟩ := hP0
  obtain ⟨Ae0, ce0, rfl, -, hle0⟩ := hE0.form
  obtain ⟨Ac0, cc0, rfl, -, hlc0⟩ := hC0.form
  clear hE0 hC0
  obtain ⟨ds1, cs1⟩ := x1
  simp only at hP1
  have HOK1 := hide hP1.ok
  have HP1 := hide hP1
  obtain ⟨ve1, vc1, rfl, hE1, hC1⟩ := hP1
  obtain ⟨Ae1, ce1, rfl, -, hle1⟩ := hE1.form
  obtain ⟨Ac1, cc1, rfl, -, hlc1⟩ := hC1.form
  clear hE1 hC1
  obtain ⟨w0, hw0⟩ : ∃ w0, w0 = (w.alloc (.cells #[.slice Ae0 ds0.length ce0, .slice Ac0 cs0.length cc0] 25)).alloc (.cells #[.slice Ae1 ds1.length ce1, .slice Ac1 cs1.length cc1] 25) := ⟨_, rfl⟩
  have hx0 : Ext w w0 := by rw [hw0]; exact ((Ext.refl w).alloc _).alloc _
  have hs0 : w0.heap.size = w.heap.size + 2 := by rw [hw0]; simp
  have K0_0 := hide (show w0.cell? ⟨w.heap.size, 0, none⟩ = some (.slice Ae0 ds0.length ce0) by rw [hw0]; go_simp)
  have K0_1 := hide (show w0.cell? ⟨w.heap.size, 1, none⟩ = some (.slice Ac0 cs0.length cc0) by rw [hw0]; go_simp)
  have ks0 : w.heap.size < w0.heap.size := by omega
  have K1_0 := hide (show w0.cell? ⟨w.heap.size + 1, 0, none⟩ = some (.slice Ae1 ds1.length ce1) by rw [hw0]; go_simp)
  have K1_1 := hide (show w0.cell? ⟨w.heap.size + 1, 1, none⟩ = some (.slice Ac1 cs1.length cc1) by rw [hw0]; go_simp)
  have ks1 : w.heap.size + 1 < w0.heap.size := by omega
  have HX0 := hide hx0
  have HB0 := hide (Ext.refl w0)
  clear hx0
  have k0_0 := K0_0.out
  have k0_1 := K0_1.out
  have hbb : ((entV ds0 cs0 ds1 cs1) != (entV ds0 cs0 ds1 cs1)) = false := by simp
  go_enter Try.func3, Try.ntmps3
  go_wp2_with fail
  try rw [← hw0]
  clear hw0
  refine (szModel_any _ ds0 cs0 _ _ (HP0.out.ext (HX0.out)) (by omega) (by omega)).mono ?_
  rintro e w1 ⟨r0, rfl, hr0, hx1⟩
  have HX1 := hide (HX0.out.trans hx1)
  have HB1 := hide (HB0.out.trans hx1)
  clear hx1
  clear k0_0 k0_1
  rcases hr0 with rfl | ⟨hr0, hrr0⟩
  · go_wp2
    go_ret
    exact Ret.mk rfl HX1.out
  have hnr0 : ¬ (r0 < 0) := by omega
  have hle0 : r0 ≤ 1048576 := by omega
  have HRR0 := hide hrr0
  clear hrr0
  have k1_0 := (HB1.out.cells _ _ ks1).trans K1_0.out
  have k1_1 := (HB1.out.cells _ _ ks1).trans K1_1.out
  go_wp2_with fail
  refine (szModel_any _ ds1 cs1 _ _ (HP1.out.ext (HX1.out)) (by omega) (by omega)).mono ?_
  rintro e w2 ⟨r1, rfl, hr1, hx2⟩
  have HX2 := hide (HX1.out.trans hx2)
  have HB2 := hide (HB1.out.trans hx2)
  clear hx2
  clear k1_0 k1_1
  rcases hr1 with rfl | ⟨hr1, hrr1⟩
  · go_wp2
    go_ret
    exact Ret.mk rfl HX2.out
  have hnr1 : ¬ (r1 < 0) := by omega
  have hle1 : r1 ≤ 1048576 := by omega
  have HRR1 := hide hrr1
  clear hrr1
  go_wp2_with fail
  -- region 8
  refine wp_region_relT (n := 6) (ts := []) (sp := [RS.q [] (fun _ => .agg #[.slice Ae0 ds0.length ce0, .slice Ac0 cs0.length cc0]), RS.p [0] (fun v W => SMod W v ds0 cs0) (fun _ _ _ h hx => SMod.ext h hx), RS.q [] (fun _ => .agg #[.slice Ae1 ds1.length ce1, .slice Ac1 cs1.length cc1]), RS.p [2] (fun v W => SMod W v ds1 cs1) (fun _ _ _ h hx => SMod.ext h hx), RS.q [1, 3] (fun _ => .bool (entV ds0 cs0 ds1 cs1)), RS.q [4] (fun _ => .bool (entV ds0 cs0 ds1 cs1))])
    (fun W => Ext w2 W) (by kernel_rfl) (relOK (D := [[], [0], [], [2], [1, 3], [4]]) rfl (by kernel_rfl) rfl) (by kernel_rfl) (fun W W' h hx => h.trans hx) (Ext.refl w2).drew ?steps8 ?ends8
  case steps8 =>
    refine ⟨?_, ?_, ?_, ?_, ?_, ?_, trivial⟩
    · intro V τ W hC hf ht h0
      have s : τ 2 = .pointer (some ⟨w.heap.size, 0, none⟩) := h0 2 (by kernel_rfl)
      have k0_0 := ((HB2.out.trans hC).cells _ _ ks0).trans K0_0.out
      have k0_1 := ((HB2.out.trans hC).cells _ _ ks0).trans K0_1.out
      refine Does.val (w' := W) (v := .agg #[.slice Ae0 ds0.length ce0, .slice Ac0 cs0.length cc0]) ?_ ⟨Ext.refl W, rfl⟩
      go_simp
    · intro V τ W hC hf ht h0
      have f0 : V 0 = .agg #[.slice Ae0 ds0.length ce0, .slice Ac0 cs0.length cc0] := hf 0 (show 0 ∈ [0] by decide)
      have s20 : τ 20 = .agg #[.slice Ae0 ds0.length ce0, .slice Ac0 cs0.length cc0] := (ht 0 (show 0 ∈ [0] by decide) 20 rfl).trans f0
      refine Does.call (w' := W) (f := 6) (args := #[.agg #[.slice Ae0 ds0.length ce0, .slice Ac0 cs0.length cc0]]) (by go_simp; all_goals (first | exact rfl | (apply And.intro <;> exact rfl))) ?_
      refine (toModel_any _ ds0 cs0 _ (HP0.out.ext (HX2.out.trans hC))).mono ?_
      rintro e wa ⟨bdq, boq, Fq, rfl, hcmq, hxq⟩
      exact ⟨_, rfl, hxq, hcmq.smod HOK0.out⟩
    · intro V τ W hC hf ht h0
      have s : τ 3 = .pointer (some ⟨w.heap.size + 1, 0, none⟩) := h0 3 (by kernel_rfl)
      have k1_0 := ((HB2.out.trans hC).cells _ _ ks1).trans K1_0.out
      have k1_1 := ((HB2.out.trans hC).cells _ _ ks1).trans K1_1.out
      refine Does.val (w' := W) (v := .agg #[.slice Ae1 ds1.length ce1, .slice Ac1 cs1.length cc1]) ?_ ⟨Ext.refl W, rfl⟩
      go_simp
    · intro V τ W hC hf ht h0
      have f2 : V 2 = .agg #[.slice Ae1 ds1.length ce1, .slice Ac1 cs1.length cc1] := hf 2 (show 2 ∈ [2] by decide)
      have s22 : τ 22 = .agg #[.slice Ae1 ds1.length ce1, .slice Ac1 cs1.length cc1] := (ht 2 (show 2 ∈ [2] by decide) 22 rfl).trans f2
      refine Does.call (w' := W) (f := 6) (args := #[.agg #[.slice Ae1 ds1.length ce1, .slice Ac1 cs1.length cc1]]) (by go_simp; all_goals (first | exact rfl | (apply And.intro <;> exact rfl))) ?_
      refine (toModel_any _ ds1 cs1 _ (HP1.out.ext (HX2.out.trans hC))).mono ?_
      rintro e wa ⟨bdq, boq, Fq, rfl, hcmq, hxq⟩
      exact ⟨_, rfl, hxq, hcmq.smod HOK1.out⟩
    · intro V τ W hC hf ht h0
      have g1 : SMod W (V 1) ds0 cs0 := hf 1 (show 1 ∈ [1, 3] by decide)
      have s21 : τ 21 = V 1 := ht 1 (show 1 ∈ [1, 3] by decide) 21 rfl
      have g3 : SMod W (V 3) ds1 cs1 := hf 3 (show 3 ∈ [1, 3] by decide)
      have s23 : τ 23 = V 3 := ht 3 (show 3 ∈ [1, 3] by decide) 23 rfl
      refine Does.call (w' := W) (f := 5) (args := #[V 1, V 3]) (by go_simp; all_goals (first | exact rfl | (apply And.intro <;> exact rfl))) ?_
      refine (EntailsS_any _ _ ds0 ds1 cs0 cs1 _ (g1) (g3)).mono ?_
      rintro e wa ⟨rfl, hxa⟩
      exact ⟨_, rfl, hxa, rfl⟩
    · intro V τ W hC hf ht h0
      have f4 : V 4 = .bool (entV ds0 cs0 ds1 cs1) := hf 4 (show 4 ∈ [4] by decide)
      have s24 := (ht 4 (show 4 ∈ [4] by decide) 24 rfl).trans f4
      refine Does.val (w' := W) (v := .bool (entV ds0 cs0 ds1 cs1)) ?_ ⟨Ext.refl W, rfl⟩
      go_simp
  intro V w3 hC hf
  have f0 : V 0 = .agg #[.slice Ae0 ds0.length ce0, .slice Ac0 cs0.length cc0] := hf 0 (by omega)
  obtain ⟨ga1, gb1, f1, -, -⟩ := (show SMod _ (V 1) ds0 cs0 from hf 1 (by omega))
  have f2 : V 2 = .agg #[.slice Ae1 ds1.length ce1, .slice Ac1 cs1.length cc1] := hf 2 (by omega)
  obtain ⟨ga3, gb3, f3, -, -⟩ := (show SMod _ (V 3) ds1 cs1 from hf 3 (by omega))
  have f4 : V 4 = .bool (entV ds0 cs0 ds1 cs1) := hf 4 (by omega)
  have f5 : V 5 = .bool (entV ds0 cs0 ds1 cs1) := hf 5 (by omega)
  clear hf
  simp only [List.take_succ_cons, List.take_zero, putAll, Act.put, List.setIfInBounds_toArray, List.set_cons_succ, List.set_cons_zero, Nat.reduceAdd, f0, f1, f2, f3, f4, f5]
  simp only [nths]
  clear f0 f1 f2 f3 f4 f5
  have HX3 := hide (HX2.out.trans hC)
  have HB3 := hide (HB2.out.trans hC)
  clear hC
  have k0_0 := (HB3.out.cells _ _ ks0).trans K0_0.out
  have k0_1 := (HB3.out.cells _ _ ks0).trans K0_1.out
  go_wp2_with fail
  refine (toModel_any _ ds0 cs0 _ (HP0.out.ext (HX3.out))).mono ?_
  rintro e w4 ⟨bd4, bo4, F4, rfl, hcm4, hx4⟩
  have HC4 := hide (hcm4.smod HOK0.out)
  have HX4 := hide (HX3.out.trans hx4)
  have HB4 := hide (HB3.out.trans hx4)
  clear hx4 hcm4
  clear k0_0 k0_1
  have HC44 := hide (Ext.refl w4)
  rw [modV] at HC4 ⊢
  have k1_0 := (HB4.out.cells _ _ ks1).trans K1_0.out
  have k1_1 := (HB4.out.cells _ _ ks1).trans K1_1.out
  have kb1_4 := Nat.lt_of_lt_of_le ks1 HB4.out.size
  go_wp2_with fail
  obtain ⟨z4, hz4⟩ : ∃ z, z = w4.alloc (.cells #[.slice (some ⟨bd4, 0, none⟩) ds0.length ds0.length, .slice (some ⟨bo4, 0, none⟩) cs0.length cs0.length] 30) := ⟨_, rfl⟩
  have hxz4 : Ext w4 z4 := by rw [hz4]; exact (Ext.refl w4).alloc _
  have U4_0 := hide (show z4.cell? ⟨w4.heap.size, 0, none⟩ = some (.slice (some ⟨bd4, 0, none⟩) ds0.length ds0.length) by rw [hz4]; go_simp)
  have U4_1 := hide (show z4.cell? ⟨w4.heap.size, 1, none⟩ = some (.slice (some ⟨bo4, 0, none⟩) cs0.length cs0.length) by rw [hz4]; go_simp)
  have us4 : w4.heap.size < z4.heap.size := by rw [hz4]; simp
  rw [← hz4]
  have HX5 := hide (HX4.out.trans hxz4)
  have HB5 := hide (HB4.out.trans hxz4)
  have HC45 := hide (HC44.out.trans hxz4)
  clear hz4 hxz4
  have HU45 := hide (Ext.refl z4)
  refine (toModel_any _ ds1 cs1 _ (HP1.out.ext (HX5.out))).mono ?_
  rintro e w5 ⟨bd5, bo5, F5, rfl, hcm5, hx5⟩
  have HC5 := hide (hcm5.smod HOK1.out)
  have HX6 := hide (HX5.out.trans hx5)
  have HB6 := hide (HB5.out.trans hx5)
  have HC46 := hide (HC45.out.trans hx5)
  have HU46 := hide (HU45.out.trans hx5)
  clear hx5 hcm5
  clear k1_0 k1_1
  have HC56 := hide (Ext.refl w5)
  rw [modV] at HC5 ⊢
  have u4_0 := (HU46.out.cells _ _ us4).trans U4_0.out
  have u4_1 := (HU46.out.cells _ _ us4).trans U4_1.out
  have ub4_6 := Nat.lt_of_lt_of_le us4 HU46.out.size
  go_wp2_with fail
  obtain ⟨z5, hz5⟩ : ∃ z, z = w5.alloc (.cells #[.slice (some ⟨bd5, 0, none⟩) ds1.length ds1.length, .slice (some ⟨bo5, 0, none⟩) cs1.length cs1.length] 30) := ⟨_, rfl⟩
  have hxz5 : Ext w5 z5 := by rw [hz5]; exact (Ext.refl w5).alloc _
  have U5_0 := hide (show z5.cell? ⟨w5.heap.size, 0, none⟩ = some (.slice (some ⟨bd5, 0, none⟩) ds1.length ds1.length) by rw [hz5]; go_simp)
  have U5_1 := hide (show z5.cell? ⟨w5.heap.size, 1, none⟩ = some (.slice (some ⟨bo5, 0, none⟩) cs1.length cs1.length) by rw [hz5]; go_simp)
  have us5 : w5.heap.size < z5.heap.size := by rw [hz5]; simp
  rw [← hz5]
  have HX7 := hide (HX6.out.trans hxz5)
  have HB7 := hide (HB6.out.trans hxz5)
  have HC47 := hide (HC46.out.trans hxz5)
  have HU47 := hide (HU46.out.trans hxz5)
  have HC57 := hide (HC56.out.trans hxz5)
  clear hz5 hxz5
  have HU57 := hide (Ext.refl z5)
  refine (EntailsI_any _ _ ds0 ds1 cs0 cs1 _ (HC4.out.ext (HC47.out)) (HC5.out.ext (HC57.out))).mono ?_
  rintro e w7 ⟨rfl, hx7⟩
  have HX8 := hide (HX7.out.trans hx7)
  have HB8 := hide (HB7.out.trans hx7)
  have HC48 := hide (HC47.out.trans hx7)
  have HU48 := hide (HU47.out.trans hx7)
  have HC58 := hide (HC57.out.trans hx7)
  have HU58 := hide (HU57.out.trans hx7)
  clear hx7
  clear u4_0 u4_1
  go_wp2_with fail
  -- region 14
  refine wp_region_relT (n := 5) (ts := []) (sp := [RS.q [] (fun _ => .agg #[.slice (some ⟨bd4, 0, none⟩) ds0.length ds0.length, .slice (some ⟨bo4, 0, none⟩) cs0.length cs0.length]), RS.q [] (fun _ => .agg #[.slice Ae0 ds0.length ce0, .slice Ac0 cs0.length cc0]), RS.p [1] (fun v W => SMod W v ds0 cs0) (fun _ _ _ h hx => SMod.ext h hx), RS.q [0, 2] (fun _ => .bool (true)), RS.q [3] (fun _ => .bool (false))])
    (fun W => Ext w7 W) (by kernel_rfl) (relOK (D := [[], [], [1], [0, 2], [3]]) rfl (by kernel_rfl) rfl) (by kernel_rfl) (fun W W' h hx => h.trans hx) (Ext.refl w7).drew ?steps14 ?ends14
  case steps14 =>
    refine ⟨?_, ?_, ?_, ?_, ?_, trivial⟩
    · intro V τ W hC hf ht h0
      have s : τ 7 = .pointer (some ⟨w4.heap.size, 0, none⟩) := h0 7 (by kernel_rfl)
      have u4_0 := ((HU48.out.trans hC).cells _ _ us4).trans U4_0.out
      have u4_1 := ((HU48.out.trans hC).cells _ _ us4).trans U4_1.out
      refine Does.val (w' := W) (v := .agg #[.slice (some ⟨bd4, 0, none⟩) ds0.length ds0.length, .slice (some ⟨bo4, 0, none⟩) cs0.length cs0.length]) ?_ ⟨Ext.refl W, rfl⟩
      go_simp
    · intro V τ W hC hf ht h0
      have s : τ 2 = .pointer (some ⟨w.heap.size, 0, none⟩) := h0 2 (by kernel_rfl)
      have k0_0 := ((HB8.out.trans hC).cells _ _ ks0).trans K0_0.out
      have k0_1 := ((HB8.out.trans hC).cells _ _ ks0).trans K0_1.out
      refine Does.val (w' := W) (v := .agg #[.slice Ae0 ds0.length ce0, .slice Ac0 cs0.length cc0]) ?_ ⟨Ext.refl W, rfl⟩
      go_simp
    · intro V τ W hC hf ht h0
      have f1 : V 1 = .agg #[.slice Ae0 ds0.length ce0, .slice Ac0 cs0.length cc0] := hf 1 (show 1 ∈ [1] by decide)
      have s36 : τ 36 = .agg #[.slice Ae0 ds0.length ce0, .slice Ac0 cs0.length cc0] := (ht 1 (show 1 ∈ [1] by decide) 36 rfl).trans f1
      refine Does.call (w' := W) (f := 6) (args := #[.agg #[.slice Ae0 ds0.length ce0, .slice Ac0 cs0.length cc0]]) (by go_simp; all_goals (first | exact rfl | (apply And.intro <;> exact rfl))) ?_
      refine (toModel_any _ ds0 cs0 _ (HP0.out.ext (HX8.out.trans hC))).mono ?_
      rintro e wa ⟨bdq, boq, Fq, rfl, hcmq, hxq⟩
      exact ⟨_, rfl, hxq, hcmq.smod HOK0.out⟩
    · intro V τ W hC hf ht h0
      have f0 : V 0 = .agg #[.slice (some ⟨bd4, 0, none⟩) ds0.length ds0.length, .slice (some ⟨bo4, 0, none⟩) cs0.length cs0.length] := hf 0 (show 0 ∈ [0, 2] by decide)
      have s35 : τ 35 = .agg #[.slice (some ⟨bd4, 0, none⟩) ds0.length ds0.length, .slice (some ⟨bo4, 0, none⟩) cs0.length cs0.length] := (ht 0 (show 0 ∈ [0, 2] by decide) 35 rfl).trans f0
      have g2 : SMod W (V 2) ds0 cs0 := hf 2 (show 2 ∈ [0, 2] by decide)
      have s37 : τ 37 = V 2 := ht 2 (show 2 ∈ [0, 2] by decide) 37 rfl
      refine Does.call (w' := W) (f := 8) (args := #[.agg #[.slice (some ⟨bd4, 0, none⟩) ds0.length ds0.length, .slice (some ⟨bo4, 0, none⟩) cs0.length cs0.length], V 2]) (by go_simp; all_goals (first | exact rfl | (apply And.intro <;> exact rfl))) ?_
      refine (eqModel_same _ _ ds0 cs0 _ ((HC4.out.ext HC48.out).ext hC) (g2)).mono ?_
      rintro e wa ⟨rfl, hxa⟩
      exact ⟨_, rfl, hxa, rfl⟩
    · intro V τ W hC hf ht h0
      have f3 : V 3 = .bool (true) := hf 3 (show 3 ∈ [3] by decide)
      have s38 := (ht 3 (show 3 ∈ [3] by decide) 38 rfl).trans f3
      refine Does.val (w' := W) (v := .bool (false)) ?_ ⟨Ext.refl W, rfl⟩
      go_simp
  intro V w9 hC hf
  have f0 : V 0 = .agg #[.slice (some ⟨bd4, 0, none⟩) ds0.length ds0.length, .slice (some ⟨bo4, 0, none⟩) cs0.length cs0.length] := hf 0 (by omega)
  have f1 : V 1 = .agg #[.slice Ae0 ds0.length ce0, .slice Ac0 cs0.length cc0] := hf 1 (by omega)
  obtain ⟨ga2, gb2, f2, -, -⟩ := (show SMod _ (V 2) ds0 cs0 from hf 2 (by omega))
  have f3 : V 3 = .bool (true) := hf 3 (by omega)
  have f4 : V 4 = .bool (false) := hf 4 (by omega)
  clear hf
  simp only [List.take_succ_cons, List.take_zero, putAll, Act.put, List.setIfInBounds_toArray, List.set_cons_succ, List.set_cons_zero, Nat.reduceAdd, f0, f1, f2, f3, f4]
  simp only [nths]
  clear f0 f1 f2 f3 f4
  have HX9 := hide (HX8.out.trans hC)
  have HB9 := hide (HB8.out.trans hC)
  have HC49 := hide (HC48.out.trans hC)
  have HU49 := hide (HU48.out.trans hC)
  have HC59 := hide (HC58.out.trans hC)
  have HU59 := hide (HU58.out.trans hC)
  clear hC
  go_wp2_with fail
  -- region 16
  refine wp_region_relT (n := 5) (ts := []) (sp := [RS.q [] (fun _ => .agg #[.slice (some ⟨bd5, 0, none⟩) ds1.length ds1.length, .slice (some ⟨bo5, 0, none⟩) cs1.length cs1.length]), RS.q [] (fun _ => .agg #[.slice Ae1 ds1.length ce1, .slice Ac1 cs1.length cc1]), RS.p [1] (fun v W => SMod W v ds1 cs1) (fun _ _ _ h hx => SMod.ext h hx), RS.q [0, 2] (fun _ => .bool (true)), RS.q [3] (fun _ => .bool (false))])
    (fun W => Ext w9 W) (by kernel_rfl) (relOK (D := [[], [], [1], [0, 2], [3]]) rfl (by kernel_rfl) rfl) (by kernel_rfl) (fun W W' h hx => h.trans hx) (Ext.refl w9).drew ?steps16 ?ends16
  case steps16 =>
    refine ⟨?_, ?_, ?_, ?_, ?_, trivial⟩
    · intro V τ W hC hf ht h0
      have s : τ 8 = .pointer (some ⟨w5.heap.size, 0, none⟩) := h0 8 (by kernel_rfl)
      have u5_0 := ((HU59.out.trans hC).cells _ _ us5).trans U5_0.out
      have u5_1 := ((HU59.out.trans hC).cells _ _ us5).trans U5_1.out
      refine Does.val (w' := W) (v := .agg #[.slice (some ⟨bd5, 0, none⟩) ds1.length ds1.length, .slice (some ⟨bo5, 0, none⟩) cs1.length cs1.length]) ?_ ⟨Ext.refl W, rfl⟩
      go_simp
    · intro V τ W hC hf ht h0
      have s : τ 3 = .pointer (some ⟨w.heap.size + 1, 0, none⟩) := h0 3 (by kernel_rfl)
      have k1_0 := ((HB9.out.trans hC).cells _ _ ks1).trans K1_0.out
      have k1_1 := ((HB9.out.trans hC).cells _ _ ks1).trans K1_1.out
      refine Does.val (w' := W) (v := .agg #[.slice Ae1 ds1.length ce1, .slice Ac1 cs1.length cc1]) ?_ ⟨Ext.refl W, rfl⟩
      go_simp
    · intro V τ W hC hf ht h0
      have f1 : V 1 = .agg #[.slice Ae1 ds1.length ce1, .slice Ac1 cs1.length cc1] := hf 1 (show 1 ∈ [1] by decide)
      have s41 : τ 41 = .agg #[.slice Ae1 ds1.length ce1, .slice Ac1 cs1.length cc1] := (ht 1 (show 1 ∈ [1] by decide) 41 rfl).trans f1
      refine Does.call (w' := W) (f := 6) (args := #[.agg #[.slice Ae1 ds1.length ce1, .slice Ac1 cs1.length cc1]]) (by go_simp; all_goals (first | exact rfl | (apply And.intro <;> exact rfl))) ?_
      refine (toModel_any _ ds1 cs1 _ (HP1.out.ext (HX9.out.trans hC))).mono ?_
      rintro e wa ⟨bdq, boq, Fq, rfl, hcmq, hxq⟩
      exact ⟨_, rfl, hxq, hcmq.smod HOK1.out⟩
    · intro V τ W hC hf ht h0
      have f0 : V 0 = .agg #[.slice (some ⟨bd5, 0, none⟩) ds1.length ds1.length, .slice (some ⟨bo5, 0, none⟩) cs1.length cs1.length] := hf 0 (show 0 ∈ [0, 2] by decide)
      have s40 : τ 40 = .agg #[.slice (some ⟨bd5, 0, none⟩) ds1.length ds1.length, .slice (some ⟨bo5, 0, none⟩) cs1.length cs1.length] := (ht 0 (show 0 ∈ [0, 2] by decide) 40 rfl).trans f0
      have g2 : SMod W (V 2) ds1 cs1 := hf 2 (show 2 ∈ [0, 2] by decide)
      have s42 : τ 42 = V 2 := ht 2 (show 2 ∈ [0, 2] by decide) 42 rfl
      refine Does.call (w' := W) (f := 8) (args := #[.agg #[.slice (some ⟨bd5, 0, none⟩) ds1.length ds1.length, .slice (some ⟨bo5, 0, none⟩) cs1.length cs1.length], V 2]) (by go_simp; all_goals (first | exact rfl | (apply And.intro <;> exact rfl))) ?_
      refine (eqModel_same _ _ ds1 cs1 _ ((HC5.out.ext HC59.out).ext hC) (g2)).mono ?_
      rintro e wa ⟨rfl, hxa⟩
      exact ⟨_, rfl, hxa, rfl⟩
    · intro V τ W hC hf ht h0
      have f3 : V 3 = .bool (true) := hf 3 (show 3 ∈ [3] by decide)
      have s43 := (ht 3 (show 3 ∈ [3] by decide) 43 rfl).trans f3
      refine Does.val (w' := W) (v := .bool (false)) ?_ ⟨Ext.refl W, rfl⟩
      go_simp
  intro V w10 hC hf
  have f0 : V 0 = .agg #[.slice (some ⟨bd5, 0, none⟩) ds1.length ds1.length, .slice (some ⟨bo5, 0, none⟩) cs1.length cs1.length] := hf 0 (by omega)
  have f1 : V 1 = .agg #[.slice Ae1 ds1.length ce1, .slice Ac1 cs1.length cc1] := hf 1 (by omega)
  obtain ⟨ga2, gb2, f2, -, -⟩ := (show SMod _ (V 2) ds1 cs1 from hf 2 (by omega))
  have f3 : V 3 = .bool (true) := hf 3 (by omega)
  have f4 : V 4 = .bool (false) := hf 4 (by omega)
  clear hf
  simp only [List.take_succ_cons, List.take_zero, putAll, Act.put, List.setIfInBounds_toArray, List.set_cons_succ, List.set_cons_zero, Nat.reduceAdd, f0, f1, f2, f3, f4]
  simp only [nths]
  clear f0 f1 f2 f3 f4
  have HX10 := hide (HX9.out.trans hC)
  have HB10 := hide (HB9.out.trans hC)
  have HC410 := hide (HC49.out.trans hC)
  have HU410 := hide (HU49.out.trans hC)
  have HC510 := hide (HC59.out.trans hC)
  have HU510 := hide (HU59.out.trans hC)
  clear hC
  go_wp2
  go_ret
  exact Ret.mk rfl HX10.out
end Go.Proofs.Ytllgicpiddapeaa
