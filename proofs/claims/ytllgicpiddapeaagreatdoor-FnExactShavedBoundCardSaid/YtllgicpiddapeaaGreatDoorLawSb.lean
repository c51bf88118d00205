/- The law's walk: FnExactShavedBound returns true. -/
import Derived.Test.YtllgicpiddapeaaGreatDoorLbW
import Derived.Test.YtllgicpiddapeaaGreatDoorLawM
namespace Go.Proofs.YtllgicpiddapeaaGreatDoor
open Go.RowKit
attribute [local go_sem] evalOf

set_option maxRecDepth 100000 in
set_option maxHeartbeats 16000000 in
theorem lawFnExactShavedBound (v0 : Value) (v1 : Value) (x0 : List Int × List Con) (x1 : List Int) (w : World) (hT : TzTab w) (hb : 1 < w.heap.size) (hP0 : SMod w v0 x0.1 x0.2) (hP1 : SInts w v1 x1) :
    Calls Tryz.prog 3 #[v0, v1] w (Ret (.bool true) w) := by
  have HTZ := hide hT
  clear hT
  obtain ⟨ds0, cs0⟩ := x0
  simp only at hP0
  have HOK0 := hide hP0.ok
  have HP0 := hide hP0
  obtain ⟨ve0, vc0, rfl, hE0, hC0⟩ := hP0
  obtain ⟨Ae0, ce0, rfl, -, hle0⟩ := hE0.form
  obtain ⟨Ac0, cc0, rfl, -, hlc0⟩ := hC0.form
  clear hE0 hC0
  have HY1 := hide hP1.bytes
  have HZ1 := hide (fun j (hj : j < x1.length) => hP1.i64 hj)
  have HP1 := hide hP1
  obtain ⟨A1, c1, rfl, -, hl1⟩ := hP1.form
  clear hP1
  obtain ⟨w0, hw0⟩ : ∃ w0, w0 = w.alloc (.cells #[.slice Ae0 ds0.length ce0, .slice Ac0 cs0.length cc0] 25) := ⟨_, rfl⟩
  have hx0 : Ext w w0 := by rw [hw0]; exact (Ext.refl w).alloc _
  have hs0 : w0.heap.size = w.heap.size + 1 := by rw [hw0]; simp
  have K0_0 := hide (show w0.cell? ⟨w.heap.size, 0, none⟩ = some (.slice Ae0 ds0.length ce0) by rw [hw0]; go_simp)
  have K0_1 := hide (show w0.cell? ⟨w.heap.size, 1, none⟩ = some (.slice Ac0 cs0.length cc0) by rw [hw0]; go_simp)
  have ks0 : w.heap.size < w0.heap.size := by omega
  have HX0 := hide hx0
  have HB0 := hide (Ext.refl w0)
  clear hx0
  have hlen1 : ¬ ((1048576 : Int) < x1.length) ∨ (1048576 : Int) < x1.length := by omega
  rcases hlen1 with hlen1 | hlen1
  case inr =>
    go_enter Tryz.func3, Tryz.ntmps3
    go_wp2
    go_ret
    first | exact Ret.mk rfl HX0.out | (rw [← hw0]; exact Ret.mk rfl HX0.out)
  have k0_0 := K0_0.out
  have k0_1 := K0_1.out
  have hbb : (((sbG ds0 cs0 x1)) != ((sbG ds0 cs0 x1))) = false := by simp
  go_enter Tryz.func3, Tryz.ntmps3
  go_wp2_with fail
  try rw [← hw0]
  clear hw0
  refine (szModel_any _ ds0 cs0 _ _ (HP0.out.ext (HX0.out)) (by omega) (by omega)).mono ?_
  rintro e w1 ⟨r0, rfl, hr0, hx1⟩
  have HX1 := hide (HX0.out.trans hx1)
  have HB1 := hide (HB0.out.trans hx1)
  clear hx1
  clear k0_0 k0_1
  rcases hr0 with rfl | ⟨hr0, hrr0⟩
  · go_wp2
    go_ret
    exact Ret.mk rfl HX1.out
  have hnr0 : ¬ (r0 < 0) := by omega
  have hle0 : r0 ≤ 1048576 := by omega
  have HRR0 := hide hrr0
  clear hrr0
  have k0_0 := (HB1.out.cells _ _ ks0).trans K0_0.out
  have k0_1 := (HB1.out.cells _ _ ks0).trans K0_1.out
  go_wp2_with fail
  refine (toModel_any _ ds0 cs0 _ (HP0.out.ext (HX1.out))).mono ?_
  rintro e w2 ⟨bd2, bo2, F2, rfl, hcm2, hx2⟩
  have HC2 := hide (hcm2.smod HOK0.out)
  have HX2 := hide (HX1.out.trans hx2)
  have HB2 := hide (HB1.out.trans hx2)
  clear hx2 hcm2
  clear k0_0 k0_1
  have HC22 := hide (Ext.refl w2)
  go_wp2_with fail
  refine (toIntS_any _ x1 _ (HP1.out.ext (HX2.out))).mono ?_
  rintro e w3 ⟨b3, -, rfl, hr3, hx3⟩
  have HC3 := hide (SInts.of_row hr3 HY1.out HZ1.out)
  have HX3 := hide (HX2.out.trans hx3)
  have HB3 := hide (HB2.out.trans hx3)
  have HC23 := hide (HC22.out.trans hx3)
  clear hx3  hr3
  have HC33 := hide (Ext.refl w3)
  go_wp2_with fail
  refine (ShavedBoundS_any _ _ ds0 cs0 x1 _ (HC2.out.ext (HC23.out)) (HC3.out.ext (HC33.out))).mono ?_
  rintro e w4 ⟨rfl, hx4⟩
  have HX4 := hide (HX3.out.trans hx4)
  have HB4 := hide (HB3.out.trans hx4)
  have HC24 := hide (HC23.out.trans hx4)
  have HC34 := hide (HC33.out.trans hx4)
  clear hx4
  have k0_0 := (HB4.out.cells _ _ ks0).trans K0_0.out
  have k0_1 := (HB4.out.cells _ _ ks0).trans K0_1.out
  go_wp2_with fail
  refine (toModel_any _ ds0 cs0 _ (HP0.out.ext (HX4.out))).mono ?_
  rintro e w5 ⟨bd5, bo5, F5, rfl, hcm5, hx5⟩
  have HC5 := hide (hcm5.smod HOK0.out)
  have HX5 := hide (HX4.out.trans hx5)
  have HB5 := hide (HB4.out.trans hx5)
  have HC25 := hide (HC24.out.trans hx5)
  have HC35 := hide (HC34.out.trans hx5)
  clear hx5 hcm5
  clear k0_0 k0_1
  have HC55 := hide (Ext.refl w5)
  rw [modV] at HC5 ⊢
  go_wp2_with fail
  obtain ⟨z5, hz5⟩ : ∃ z, z = w5.alloc (.cells #[.slice (some ⟨bd5, 0, none⟩) ds0.length ds0.length, .slice (some ⟨bo5, 0, none⟩) cs0.length cs0.length] 31) := ⟨_, rfl⟩
  have hxz5 : Ext w5 z5 := by rw [hz5]; exact (Ext.refl w5).alloc _
  have U5_0 := hide (show z5.cell? ⟨w5.heap.size, 0, none⟩ = some (.slice (some ⟨bd5, 0, none⟩) ds0.length ds0.length) by rw [hz5]; go_simp)
  have U5_1 := hide (show z5.cell? ⟨w5.heap.size, 1, none⟩ = some (.slice (some ⟨bo5, 0, none⟩) cs0.length cs0.length) by rw [hz5]; go_simp)
  have us5 : w5.heap.size < z5.heap.size := by rw [hz5]; simp
  rw [← hz5]
  have HX6 := hide (HX5.out.trans hxz5)
  have HB6 := hide (HB5.out.trans hxz5)
  have HC26 := hide (HC25.out.trans hxz5)
  have HC36 := hide (HC35.out.trans hxz5)
  have HC56 := hide (HC55.out.trans hxz5)
  clear hz5 hxz5
  have HU56 := hide (Ext.refl z5)
  refine (toIntS_any _ x1 _ (HP1.out.ext (HX6.out))).mono ?_
  rintro e w6 ⟨b6, -, rfl, hr6, hx6⟩
  have HC6 := hide (SInts.of_row hr6 HY1.out HZ1.out)
  have HX7 := hide (HX6.out.trans hx6)
  have HB7 := hide (HB6.out.trans hx6)
  have HC27 := hide (HC26.out.trans hx6)
  have HC37 := hide (HC36.out.trans hx6)
  have HC57 := hide (HC56.out.trans hx6)
  have HU57 := hide (HU56.out.trans hx6)
  clear hx6  hr6
  have HC67 := hide (Ext.refl w6)
  have u5_0 := (HU57.out.cells _ _ us5).trans U5_0.out
  have u5_1 := (HU57.out.cells _ _ us5).trans U5_1.out
  go_wp2_with fail
  refine (ShavedBoundI_any _ _ ds0 cs0 x1 _ (HC5.out.ext (HC57.out)) (HC6.out.ext (HC67.out)) (TzTab.ext HTZ.out hb (HX7.out)) (Nat.lt_of_lt_of_le hb (HX7.out).size)).mono ?_
  rintro e w8 ⟨rfl, hx8⟩
  have HX8 := hide (HX7.out.trans hx8)
  have HB8 := hide (HB7.out.trans hx8)
  have HC28 := hide (HC27.out.trans hx8)
  have HC38 := hide (HC37.out.trans hx8)
  have HC58 := hide (HC57.out.trans hx8)
  have HU58 := hide (HU57.out.trans hx8)
  have HC68 := hide (HC67.out.trans hx8)
  clear hx8
  clear u5_0 u5_1
  go_wp2_with fail
  -- region 13
  refine wp_region_relT (n := 5) (ts := []) (sp := [RS.q [] (fun _ => .agg #[.slice (some ⟨bd5, 0, none⟩) ds0.length ds0.length, .slice (some ⟨bo5, 0, none⟩) cs0.length cs0.length]), RS.q [] (fun _ => .agg #[.slice Ae0 ds0.length ce0, .slice Ac0 cs0.length cc0]), RS.p [1] (fun v W => SMod W v ds0 cs0) (fun _ _ _ h hx => SMod.ext h hx), RS.q [0, 2] (fun _ => .bool (true)), RS.q [3] (fun _ => .bool (false))])
    (fun W => Ext w8 W) (by kernel_rfl) (relOK (D := [[], [], [1], [0, 2], [3]]) rfl (by kernel_rfl) rfl) (by kernel_rfl) (fun W W' h hx => h.trans hx) (Ext.refl w8).drew ?steps13 ?ends13
  case steps13 =>
    refine ⟨?_, ?_, ?_, ?_, ?_, trivial⟩
    · intro V τ W hC hf ht h0
      have s : τ 8 = .pointer (some ⟨w5.heap.size, 0, none⟩) := h0 8 (by kernel_rfl)
      have u5_0 := ((HU58.out.trans hC).cells _ _ us5).trans U5_0.out
      have u5_1 := ((HU58.out.trans hC).cells _ _ us5).trans U5_1.out
      refine Does.val (w' := W) (v := .agg #[.slice (some ⟨bd5, 0, none⟩) ds0.length ds0.length, .slice (some ⟨bo5, 0, none⟩) cs0.length cs0.length]) ?_ ⟨Ext.refl W, rfl⟩
      go_simp
    · intro V τ W hC hf ht h0
      have s : τ 2 = .pointer (some ⟨w.heap.size, 0, none⟩) := h0 2 (by kernel_rfl)
      have k0_0 := ((HB8.out.trans hC).cells _ _ ks0).trans K0_0.out
      have k0_1 := ((HB8.out.trans hC).cells _ _ ks0).trans K0_1.out
      refine Does.val (w' := W) (v := .agg #[.slice Ae0 ds0.length ce0, .slice Ac0 cs0.length cc0]) ?_ ⟨Ext.refl W, rfl⟩
      go_simp
    · intro V τ W hC hf ht h0
      have f1 : V 1 = .agg #[.slice Ae0 ds0.length ce0, .slice Ac0 cs0.length cc0] := hf 1 (show 1 ∈ [1] by decide)
      have s47 : τ 47 = .agg #[.slice Ae0 ds0.length ce0, .slice Ac0 cs0.length cc0] := (ht 1 (show 1 ∈ [1] by decide) 47 rfl).trans f1
      refine Does.call (w' := W) (f := 7) (args := #[.agg #[.slice Ae0 ds0.length ce0, .slice Ac0 cs0.length cc0]]) (by go_simp; all_goals (first | exact rfl | (apply And.intro <;> exact rfl))) ?_
      refine (toModel_any _ ds0 cs0 _ (HP0.out.ext (HX8.out.trans hC))).mono ?_
      rintro e wa ⟨bdq, boq, Fq, rfl, hcmq, hxq⟩
      exact ⟨_, rfl, hxq, hcmq.smod HOK0.out⟩
    · intro V τ W hC hf ht h0
      have f0 : V 0 = .agg #[.slice (some ⟨bd5, 0, none⟩) ds0.length ds0.length, .slice (some ⟨bo5, 0, none⟩) cs0.length cs0.length] := hf 0 (show 0 ∈ [0, 2] by decide)
      have s46 : τ 46 = .agg #[.slice (some ⟨bd5, 0, none⟩) ds0.length ds0.length, .slice (some ⟨bo5, 0, none⟩) cs0.length cs0.length] := (ht 0 (show 0 ∈ [0, 2] by decide) 46 rfl).trans f0
      have g2 : SMod W (V 2) ds0 cs0 := hf 2 (show 2 ∈ [0, 2] by decide)
      have s48 : τ 48 = V 2 := ht 2 (show 2 ∈ [0, 2] by decide) 48 rfl
      refine Does.call (w' := W) (f := 10) (args := #[.agg #[.slice (some ⟨bd5, 0, none⟩) ds0.length ds0.length, .slice (some ⟨bo5, 0, none⟩) cs0.length cs0.length], V 2]) (by go_simp; all_goals (first | exact rfl | (apply And.intro <;> exact rfl))) ?_
      refine (eqModel_same _ _ ds0 cs0 _ ((HC5.out.ext HC58.out).ext hC) (g2)).mono ?_
      rintro e wa ⟨rfl, hxa⟩
      exact ⟨_, rfl, hxa, rfl⟩
    · intro V τ W hC hf ht h0
      have f3 : V 3 = .bool (true) := hf 3 (show 3 ∈ [3] by decide)
      have s49 := (ht 3 (show 3 ∈ [3] by decide) 49 rfl).trans f3
      refine Does.val (w' := W) (v := .bool (false)) ?_ ⟨Ext.refl W, rfl⟩
      go_simp
  intro V w9 hC hf
  have f0 : V 0 = .agg #[.slice (some ⟨bd5, 0, none⟩) ds0.length ds0.length, .slice (some ⟨bo5, 0, none⟩) cs0.length cs0.length] := hf 0 (by omega)
  have f1 : V 1 = .agg #[.slice Ae0 ds0.length ce0, .slice Ac0 cs0.length cc0] := hf 1 (by omega)
  obtain ⟨ga2, gb2, f2, -, -⟩ := (show SMod _ (V 2) ds0 cs0 from hf 2 (by omega))
  have f3 : V 3 = .bool (true) := hf 3 (by omega)
  have f4 : V 4 = .bool (false) := hf 4 (by omega)
  clear hf
  simp only [List.take_succ_cons, List.take_zero, putAll, Act.put, List.setIfInBounds_toArray, List.set_cons_succ, List.set_cons_zero, Nat.reduceAdd, f0, f1, f2, f3, f4]
  simp only [nths]
  clear f0 f1 f2 f3 f4
  have HX9 := hide (HX8.out.trans hC)
  have HB9 := hide (HB8.out.trans hC)
  have HC29 := hide (HC28.out.trans hC)
  have HC39 := hide (HC38.out.trans hC)
  have HC59 := hide (HC58.out.trans hC)
  have HU59 := hide (HU58.out.trans hC)
  have HC69 := hide (HC68.out.trans hC)
  clear hC
  go_wp2_with fail
  refine (toIntS_any _ x1 _ (HP1.out.ext (HX9.out))).mono ?_
  rintro e w10 ⟨b10, -, rfl, hr10, hx10⟩
  have HC10 := hide (SInts.of_row hr10 HY1.out HZ1.out)
  have HX10 := hide (HX9.out.trans hx10)
  have HB10 := hide (HB9.out.trans hx10)
  have HC210 := hide (HC29.out.trans hx10)
  have HC310 := hide (HC39.out.trans hx10)
  have HC510 := hide (HC59.out.trans hx10)
  have HU510 := hide (HU59.out.trans hx10)
  have HC610 := hide (HC69.out.trans hx10)
  clear hx10  hr10
  have HC1010 := hide (Ext.refl w10)
  go_wp2_with fail
  refine (eqIntS_same _ _ x1 _ (HC6.out.ext (HC610.out)) (HC10.out.ext (HC1010.out))).mono ?_
  rintro e w11 ⟨rfl, hx11⟩
  have HX11 := hide (HX10.out.trans hx11)
  have HB11 := hide (HB10.out.trans hx11)
  have HC211 := hide (HC210.out.trans hx11)
  have HC311 := hide (HC310.out.trans hx11)
  have HC511 := hide (HC510.out.trans hx11)
  have HU511 := hide (HU510.out.trans hx11)
  have HC611 := hide (HC610.out.trans hx11)
  have HC1011 := hide (HC1010.out.trans hx11)
  clear hx11
  go_wp2
  go_ret
  exact Ret.mk rfl HX11.out
end Go.Proofs.YtllgicpiddapeaaGreatDoor
