/- The law's walk: FnExactIsExplanation returns true. -/
import Derived.Test.YtpnlambndbfenaaExplX
import Derived.Test.YtpnlambndbfenaaLawX
namespace Go.Proofs.Ytpnlambndbfenaa
open Go.RowKit
attribute [local go_sem] evalOf

set_option maxRecDepth 100000 in
set_option maxHeartbeats 16000000 in
theorem lawFnExactIsExplanation (v0 : Value) (n1 : Int) (v2 : Value) (v3 : Value) (x0 : Con) (x2 : List Rm) (x3 : Rm) (w : World) (hP0 : SCon w v0 x0) (hI1 : I64 n1) (hP2 : SRm w v2 x2) (hP3 : v3 = rmW x3) :
    Calls Try.prog 3 #[v0, .int .i64 n1, v2, v3] w (Ret (.bool true) w) := by
  have HP0 := hide hP0
  obtain ⟨vv0, va0, vr0, rfl, hV0, hA0, hR0⟩ := hP0
  have HOK0 := hide (okCon_of hV0 hA0 hR0)
  have HV0 := hide hV0
  have HA0 := hide hA0
  have HR0 := hide hR0
  obtain ⟨Av0, cv0, rfl, -, -⟩ := hV0.form
  obtain ⟨Aa0, ca0, rfl, -, -⟩ := hA0.form
  obtain ⟨Ar0, cr0, rfl, -, -⟩ := hR0.form
  clear hV0 hA0 hR0
  have _u1 := hI1
  clear _u1
  have HY2 := hide (show x2.length * 16 ≤ 140737488355328 by obtain ⟨A, c, -, -, h, -⟩ := hP2; exact h)
  have HP2 := hide hP2
  obtain ⟨A2, c2, rfl, -, hl2⟩ := hP2.form
  clear hP2
  subst hP3
  rw [rmW]
  obtain ⟨w0, hw0⟩ : ∃ w0, w0 = (w.alloc (.cells #[.int .i64 x0.kk, .slice Av0 x0.vars.length cv0, .slice Aa0 x0.args.length ca0, .int .i64 x0.bound, .slice Ar0 x0.rows.length cr0] 25)).alloc (.cells #[.int .i64 x3.x, .int .i64 x3.v] 28) := ⟨_, rfl⟩
  have hx0 : Ext w w0 := by rw [hw0]; exact ((Ext.refl w).alloc _).alloc _
  have hs0 : w0.heap.size = w.heap.size + 2 := by rw [hw0]; simp
  have K0_0 := hide (show w0.cell? ⟨w.heap.size, 0, none⟩ = some (.int .i64 x0.kk) by rw [hw0]; go_simp)
  have K0_1 := hide (show w0.cell? ⟨w.heap.size, 1, none⟩ = some (.slice Av0 x0.vars.length cv0) by rw [hw0]; go_simp)
  have K0_2 := hide (show w0.cell? ⟨w.heap.size, 2, none⟩ = some (.slice Aa0 x0.args.length ca0) by rw [hw0]; go_simp)
  have K0_3 := hide (show w0.cell? ⟨w.heap.size, 3, none⟩ = some (.int .i64 x0.bound) by rw [hw0]; go_simp)
  have K0_4 := hide (show w0.cell? ⟨w.heap.size, 4, none⟩ = some (.slice Ar0 x0.rows.length cr0) by rw [hw0]; go_simp)
  have ks0 : w.heap.size < w0.heap.size := by omega
  have K3_0 := hide (show w0.cell? ⟨w.heap.size + 1, 0, none⟩ = some (.int .i64 x3.x) by rw [hw0]; go_simp)
  have K3_1 := hide (show w0.cell? ⟨w.heap.size + 1, 1, none⟩ = some (.int .i64 x3.v) by rw [hw0]; go_simp)
  have ks3 : w.heap.size + 1 < w0.heap.size := by omega
  have HX0 := hide hx0
  have HB0 := hide (Ext.refl w0)
  clear hx0
  have k0_0 := K0_0.out
  have k0_1 := K0_1.out
  have k0_2 := K0_2.out
  have k0_3 := K0_3.out
  have k0_4 := K0_4.out
  have hbb : ((expV x0 n1 x2 x3) != (expV x0 n1 x2 x3)) = false := by simp
  go_enter Try.func3, Try.ntmps3
  go_wp2_with fail
  try rw [← hw0]
  clear hw0
  refine (szConstraint_any x0 _ _ _ _ _ (HV0.out.ext (HX0.out)) (HA0.out.ext (HX0.out)) (HR0.out.ext (HX0.out)) (by omega) (by omega)).mono ?_
  rintro e w1 ⟨r0, rfl, hr0, hx1⟩
  have HX1 := hide (HX0.out.trans hx1)
  have HB1 := hide (HB0.out.trans hx1)
  clear hx1
  clear k0_0 k0_1 k0_2 k0_3 k0_4
  rcases hr0 with rfl | ⟨hr0, hrr0⟩
  · go_wp2
    go_ret
    exact Ret.mk rfl HX1.out
  have hnr0 : ¬ (r0 < 0) := by omega
  have hle0 : r0 ≤ 1048576 := by omega
  have HRR0 := hide hrr0
  clear hrr0
  go_wp2_with fail
  refine (szRemovalS_any _ x2 _ _ (HP2.out.ext (HX1.out)) (by omega) (by omega)).mono ?_
  rintro e w2 ⟨rfl, rfl⟩
  have HX2 := HX1
  have HB2 := HB1
  by_cases hf2 : (x2.length : Int) ≤ r0
  case neg =>
    have e2 : left0 r0 x2.length = -1 := by rw [left0, if_neg hf2]
    rw [e2]
    go_wp2
    go_ret
    exact Ret.mk rfl HX2.out
  obtain ⟨r2, hr2⟩ : ∃ r, r = left0 r0 x2.length := ⟨_, rfl⟩
  have hrr2 : r2 = r0 - x2.length := by rw [hr2, left0_pos hf2]
  rw [← hr2]
  clear hr2
  have hnr2 : ¬ (r2 < 0) := by omega
  have hr2 : 0 ≤ r2 := by omega
  have hle2 : r2 ≤ 1048576 := by omega
  have HRR2 := hide hrr2
  clear hrr2
  go_wp2_with fail
  -- region 8
  refine wp_region_relT (n := 9) (ts := []) (sp := [RS.q [] (fun _ => .agg #[.int .i64 x0.kk, .slice Av0 x0.vars.length cv0, .slice Aa0 x0.args.length ca0, .int .i64 x0.bound, .slice Ar0 x0.rows.length cr0]), RS.p [0] (fun v W => SCon W v x0) (fun _ _ _ h hx => SCon.ext h hx), RS.q [] (fun _ => .int .i64 n1), RS.q [] (fun _ => .slice A2 x2.length c2), RS.p [3] (fun v W => SRm W v x2) (fun _ _ _ h hx => SRm.ext h hx), RS.q [] (fun _ => .agg #[.int .i64 x3.x, .int .i64 x3.v]), RS.q [5] (fun _ => .agg #[.int .i64 x3.x, .int .i64 x3.v]), RS.q [1, 2, 4, 6] (fun _ => .bool (expV x0 n1 x2 x3)), RS.q [7] (fun _ => .bool (expV x0 n1 x2 x3))])
    (fun W => Ext w1 W) (by kernel_rfl) (relOK (D := [[], [0], [], [], [3], [], [5], [1, 2, 4, 6], [7]]) rfl (by kernel_rfl) rfl) (by kernel_rfl) (fun W W' h hx => h.trans hx) (Ext.refl w1).drew ?steps8 ?ends8
  case steps8 =>
    refine ⟨?_, ?_, ?_, ?_, ?_, ?_, ?_, ?_, ?_, trivial⟩
    · intro V τ W hC hf ht h0
      have s : τ 4 = .pointer (some ⟨w.heap.size, 0, none⟩) := h0 4 (by kernel_rfl)
      have k0_0 := ((HB2.out.trans hC).cells _ _ ks0).trans K0_0.out
      have k0_1 := ((HB2.out.trans hC).cells _ _ ks0).trans K0_1.out
      have k0_2 := ((HB2.out.trans hC).cells _ _ ks0).trans K0_2.out
      have k0_3 := ((HB2.out.trans hC).cells _ _ ks0).trans K0_3.out
      have k0_4 := ((HB2.out.trans hC).cells _ _ ks0).trans K0_4.out
      refine Does.val (w' := W) (v := .agg #[.int .i64 x0.kk, .slice Av0 x0.vars.length cv0, .slice Aa0 x0.args.length ca0, .int .i64 x0.bound, .slice Ar0 x0.rows.length cr0]) ?_ ⟨Ext.refl W, rfl⟩
      go_simp
    · intro V τ W hC hf ht h0
      have f0 : V 0 = .agg #[.int .i64 x0.kk, .slice Av0 x0.vars.length cv0, .slice Aa0 x0.args.length ca0, .int .i64 x0.bound, .slice Ar0 x0.rows.length cr0] := hf 0 (show 0 ∈ [0] by decide)
      have s24 : τ 24 = .agg #[.int .i64 x0.kk, .slice Av0 x0.vars.length cv0, .slice Aa0 x0.args.length ca0, .int .i64 x0.bound, .slice Ar0 x0.rows.length cr0] := (ht 0 (show 0 ∈ [0] by decide) 24 rfl).trans f0
      refine Does.call (w' := W) (f := 12) (args := #[.agg #[.int .i64 x0.kk, .slice Av0 x0.vars.length cv0, .slice Aa0 x0.args.length ca0, .int .i64 x0.bound, .slice Ar0 x0.rows.length cr0]]) (by go_simp; all_goals (first | exact rfl | (apply And.intro <;> exact rfl))) ?_
      refine (toConstraint_any x0 _ _ _ _ (HV0.out.ext (HX2.out.trans hC)) (HA0.out.ext (HX2.out.trans hC)) (HR0.out.ext (HX2.out.trans hC))).mono ?_
      rintro e wa ⟨bvq, baq, brq, rfl, hcmq, hxq⟩
      exact ⟨_, rfl, hxq, hcmq.scon HOK0.out⟩
    · intro V τ W hC hf ht h0
      have s : τ 1 = .int .i64 n1 := h0 1 (by kernel_rfl)
      refine Does.val (w' := W) (v := .int .i64 n1) ?_ ⟨Ext.refl W, rfl⟩
      go_simp
    · intro V τ W hC hf ht h0
      have s : τ 2 = .slice A2 x2.length c2 := h0 2 (by kernel_rfl)
      refine Does.val (w' := W) (v := .slice A2 x2.length c2) ?_ ⟨Ext.refl W, rfl⟩
      go_simp
    · intro V τ W hC hf ht h0
      have f3 : V 3 = .slice A2 x2.length c2 := hf 3 (show 3 ∈ [3] by decide)
      have s27 : τ 27 = .slice A2 x2.length c2 := (ht 3 (show 3 ∈ [3] by decide) 27 rfl).trans f3
      refine Does.call (w' := W) (f := 13) (args := #[.slice A2 x2.length c2]) (by go_simp; all_goals (first | exact rfl | (apply And.intro <;> exact rfl))) ?_
      refine (toRemovalS_any _ x2 _ (HP2.out.ext (HX2.out.trans hC))).mono ?_
      rintro e wa ⟨bq, -, rfl, hrq, hxq⟩
      exact ⟨_, rfl, hxq, SRm.of_row hrq HY2.out⟩
    · intro V τ W hC hf ht h0
      have s : τ 7 = .pointer (some ⟨w.heap.size + 1, 0, none⟩) := h0 7 (by kernel_rfl)
      have k3_0 := ((HB2.out.trans hC).cells _ _ ks3).trans K3_0.out
      have k3_1 := ((HB2.out.trans hC).cells _ _ ks3).trans K3_1.out
      refine Does.val (w' := W) (v := .agg #[.int .i64 x3.x, .int .i64 x3.v]) ?_ ⟨Ext.refl W, rfl⟩
      go_simp
    · intro V τ W hC hf ht h0
      have f5 : V 5 = .agg #[.int .i64 x3.x, .int .i64 x3.v] := hf 5 (show 5 ∈ [5] by decide)
      have s29 : τ 29 = .agg #[.int .i64 x3.x, .int .i64 x3.v] := (ht 5 (show 5 ∈ [5] by decide) 29 rfl).trans f5
      refine Does.call (w' := W) (f := 14) (args := #[.agg #[.int .i64 x3.x, .int .i64 x3.v]]) (by go_simp; all_goals (first | exact rfl | (apply And.intro <;> exact rfl))) ?_
      refine (toRemoval_any x3.x x3.v _).mono ?_
      rintro e wa ⟨rfl, hxq⟩
      exact ⟨_, rfl, hxq, rfl⟩
    · intro V τ W hC hf ht h0
      have g1 : SCon W (V 1) x0 := hf 1 (show 1 ∈ [1, 2, 4, 6] by decide)
      have s25 : τ 25 = V 1 := ht 1 (show 1 ∈ [1, 2, 4, 6] by decide) 25 rfl
      have f2 : V 2 = .int .i64 n1 := hf 2 (show 2 ∈ [1, 2, 4, 6] by decide)
      have s26 : τ 26 = .int .i64 n1 := (ht 2 (show 2 ∈ [1, 2, 4, 6] by decide) 26 rfl).trans f2
      have g4 : SRm W (V 4) x2 := hf 4 (show 4 ∈ [1, 2, 4, 6] by decide)
      have s28 : τ 28 = V 4 := ht 4 (show 4 ∈ [1, 2, 4, 6] by decide) 28 rfl
      have f6 : V 6 = .agg #[.int .i64 x3.x, .int .i64 x3.v] := hf 6 (show 6 ∈ [1, 2, 4, 6] by decide)
      have s30 : τ 30 = .agg #[.int .i64 x3.x, .int .i64 x3.v] := (ht 6 (show 6 ∈ [1, 2, 4, 6] by decide) 30 rfl).trans f6
      refine Does.call (w' := W) (f := 11) (args := #[V 1, .int .i64 n1, V 4, .agg #[.int .i64 x3.x, .int .i64 x3.v]]) (by go_simp; all_goals (first | exact rfl | (apply And.intro <;> exact rfl))) ?_
      refine (IsExplanationS_any x0 _ _ n1 x2 x3 _ (g1) (g4)).mono ?_
      rintro e wa ⟨rfl, hxa⟩
      exact ⟨_, rfl, hxa, rfl⟩
    · intro V τ W hC hf ht h0
      have f7 : V 7 = .bool (expV x0 n1 x2 x3) := hf 7 (show 7 ∈ [7] by decide)
      have s31 := (ht 7 (show 7 ∈ [7] by decide) 31 rfl).trans f7
      refine Does.val (w' := W) (v := .bool (expV x0 n1 x2 x3)) ?_ ⟨Ext.refl W, rfl⟩
      go_simp
  intro V w3 hC hf
  have f0 : V 0 = .agg #[.int .i64 x0.kk, .slice Av0 x0.vars.length cv0, .slice Aa0 x0.args.length ca0, .int .i64 x0.bound, .slice Ar0 x0.rows.length cr0] := hf 0 (by omega)
  obtain ⟨ga1, gb1, gc1, f1, -, -, -⟩ := (show SCon _ (V 1) x0 from hf 1 (by omega))
  have f2 : V 2 = .int .i64 n1 := hf 2 (by omega)
  have f3 : V 3 = .slice A2 x2.length c2 := hf 3 (by omega)
  obtain ⟨ga4, gb4, f4, -⟩ := (show SRm _ (V 4) x2 from hf 4 (by omega)).form
  have f5 : V 5 = .agg #[.int .i64 x3.x, .int .i64 x3.v] := hf 5 (by omega)
  have f6 : V 6 = .agg #[.int .i64 x3.x, .int .i64 x3.v] := hf 6 (by omega)
  have f7 : V 7 = .bool (expV x0 n1 x2 x3) := hf 7 (by omega)
  have f8 : V 8 = .bool (expV x0 n1 x2 x3) := hf 8 (by omega)
  clear hf
  simp only [List.take_succ_cons, List.take_zero, putAll, Act.put, List.setIfInBounds_toArray, List.set_cons_succ, List.set_cons_zero, Nat.reduceAdd, f0, f1, f2, f3, f4, f5, f6, f7, f8]
  simp only [nths]
  clear f0 f1 f2 f3 f4 f5 f6 f7 f8
  have HX3 := hide (HX2.out.trans hC)
  have HB3 := hide (HB2.out.trans hC)
  clear hC
  have k0_0 := (HB3.out.cells _ _ ks0).trans K0_0.out
  have k0_1 := (HB3.out.cells _ _ ks0).trans K0_1.out
  have k0_2 := (HB3.out.cells _ _ ks0).trans K0_2.out
  have k0_3 := (HB3.out.cells _ _ ks0).trans K0_3.out
  have k0_4 := (HB3.out.cells _ _ ks0).trans K0_4.out
  go_wp2_with fail
  refine (toConstraint_any x0 _ _ _ _ (HV0.out.ext (HX3.out)) (HA0.out.ext (HX3.out)) (HR0.out.ext (HX3.out))).mono ?_
  rintro e w4 ⟨bv4, ba4, br4, rfl, hcm4, hx4⟩
  have HC4 := hide (hcm4.scon HOK0.out)
  have HX4 := hide (HX3.out.trans hx4)
  have HB4 := hide (HB3.out.trans hx4)
  clear hx4 hcm4
  clear k0_0 k0_1 k0_2 k0_3 k0_4
  have HC44 := hide (Ext.refl w4)
  rw [conV] at HC4 ⊢
  go_wp2_with fail
  obtain ⟨z4, hz4⟩ : ∃ z, z = w4.alloc (.cells #[.int .i64 x0.kk, .slice (some ⟨bv4, 0, none⟩) x0.vars.length x0.vars.length, .slice (some ⟨ba4, 0, none⟩) x0.args.length x0.args.length, .int .i64 x0.bound, .slice (some ⟨br4, 0, none⟩) x0.rows.length x0.rows.length] 32) := ⟨_, rfl⟩
  have hxz4 : Ext w4 z4 := by rw [hz4]; exact (Ext.refl w4).alloc _
  have U4_0 := hide (show z4.cell? ⟨w4.heap.size, 0, none⟩ = some (.int .i64 x0.kk) by rw [hz4]; go_simp)
  have U4_1 := hide (show z4.cell? ⟨w4.heap.size, 1, none⟩ = some (.slice (some ⟨bv4, 0, none⟩) x0.vars.length x0.vars.length) by rw [hz4]; go_simp)
  have U4_2 := hide (show z4.cell? ⟨w4.heap.size, 2, none⟩ = some (.slice (some ⟨ba4, 0, none⟩) x0.args.length x0.args.length) by rw [hz4]; go_simp)
  have U4_3 := hide (show z4.cell? ⟨w4.heap.size, 3, none⟩ = some (.int .i64 x0.bound) by rw [hz4]; go_simp)
  have U4_4 := hide (show z4.cell? ⟨w4.heap.size, 4, none⟩ = some (.slice (some ⟨br4, 0, none⟩) x0.rows.length x0.rows.length) by rw [hz4]; go_simp)
  have us4 : w4.heap.size < z4.heap.size := by rw [hz4]; simp
  rw [← hz4]
  have HX5 := hide (HX4.out.trans hxz4)
  have HB5 := hide (HB4.out.trans hxz4)
  have HC45 := hide (HC44.out.trans hxz4)
  clear hz4 hxz4
  have HU45 := hide (Ext.refl z4)
  refine (toRemovalS_any _ x2 _ (HP2.out.ext (HX5.out))).mono ?_
  rintro e w5 ⟨b5, -, rfl, hr5, hx5⟩
  have HC5 := hide (SRm.of_row hr5 HY2.out)
  have HX6 := hide (HX5.out.trans hx5)
  have HB6 := hide (HB5.out.trans hx5)
  have HC46 := hide (HC45.out.trans hx5)
  have HU46 := hide (HU45.out.trans hx5)
  clear hx5  hr5
  have HC56 := hide (Ext.refl w5)
  go_wp2_with fail
  -- region 11
  refine wp_region_relT (n := 7) (ts := []) (sp := [RS.q [] (fun _ => .agg #[.int .i64 x0.kk, .slice (some ⟨bv4, 0, none⟩) x0.vars.length x0.vars.length, .slice (some ⟨ba4, 0, none⟩) x0.args.length x0.args.length, .int .i64 x0.bound, .slice (some ⟨br4, 0, none⟩) x0.rows.length x0.rows.length]), RS.q [] (fun _ => .int .i64 n1), RS.q [] (fun _ => .slice (some ⟨b5, 0, none⟩) x2.length x2.length), RS.q [] (fun _ => .agg #[.int .i64 x3.x, .int .i64 x3.v]), RS.q [3] (fun _ => .agg #[.int .i64 x3.x, .int .i64 x3.v]), RS.q [0, 1, 2, 4] (fun _ => .bool (expV x0 n1 x2 x3)), RS.q [5] (fun _ => .bool (expV x0 n1 x2 x3))])
    (fun W => Ext w5 W) (by kernel_rfl) (relOK (D := [[], [], [], [], [3], [0, 1, 2, 4], [5]]) rfl (by kernel_rfl) rfl) (by kernel_rfl) (fun W W' h hx => h.trans hx) (Ext.refl w5).drew ?steps11 ?ends11
  case steps11 =>
    refine ⟨?_, ?_, ?_, ?_, ?_, ?_, ?_, trivial⟩
    · intro V τ W hC hf ht h0
      have s : τ 11 = .pointer (some ⟨w4.heap.size, 0, none⟩) := h0 11 (by kernel_rfl)
      have u4_0 := ((HU46.out.trans hC).cells _ _ us4).trans U4_0.out
      have u4_1 := ((HU46.out.trans hC).cells _ _ us4).trans U4_1.out
      have u4_2 := ((HU46.out.trans hC).cells _ _ us4).trans U4_2.out
      have u4_3 := ((HU46.out.trans hC).cells _ _ us4).trans U4_3.out
      have u4_4 := ((HU46.out.trans hC).cells _ _ us4).trans U4_4.out
      refine Does.val (w' := W) (v := .agg #[.int .i64 x0.kk, .slice (some ⟨bv4, 0, none⟩) x0.vars.length x0.vars.length, .slice (some ⟨ba4, 0, none⟩) x0.args.length x0.args.length, .int .i64 x0.bound, .slice (some ⟨br4, 0, none⟩) x0.rows.length x0.rows.length]) ?_ ⟨Ext.refl W, rfl⟩
      go_simp
    · intro V τ W hC hf ht h0
      have s : τ 1 = .int .i64 n1 := h0 1 (by kernel_rfl)
      refine Does.val (w' := W) (v := .int .i64 n1) ?_ ⟨Ext.refl W, rfl⟩
      go_simp
    · intro V τ W hC hf ht h0
      have s : τ 12 = .slice (some ⟨b5, 0, none⟩) x2.length x2.length := h0 12 (by kernel_rfl)
      refine Does.val (w' := W) (v := .slice (some ⟨b5, 0, none⟩) x2.length x2.length) ?_ ⟨Ext.refl W, rfl⟩
      go_simp
    · intro V τ W hC hf ht h0
      have s : τ 7 = .pointer (some ⟨w.heap.size + 1, 0, none⟩) := h0 7 (by kernel_rfl)
      have k3_0 := ((HB6.out.trans hC).cells _ _ ks3).trans K3_0.out
      have k3_1 := ((HB6.out.trans hC).cells _ _ ks3).trans K3_1.out
      refine Does.val (w' := W) (v := .agg #[.int .i64 x3.x, .int .i64 x3.v]) ?_ ⟨Ext.refl W, rfl⟩
      go_simp
    · intro V τ W hC hf ht h0
      have f3 : V 3 = .agg #[.int .i64 x3.x, .int .i64 x3.v] := hf 3 (show 3 ∈ [3] by decide)
      have s39 : τ 39 = .agg #[.int .i64 x3.x, .int .i64 x3.v] := (ht 3 (show 3 ∈ [3] by decide) 39 rfl).trans f3
      refine Does.call (w' := W) (f := 14) (args := #[.agg #[.int .i64 x3.x, .int .i64 x3.v]]) (by go_simp; all_goals (first | exact rfl | (apply And.intro <;> exact rfl))) ?_
      refine (toRemoval_any x3.x x3.v _).mono ?_
      rintro e wa ⟨rfl, hxq⟩
      exact ⟨_, rfl, hxq, rfl⟩
    · intro V τ W hC hf ht h0
      have f0 : V 0 = .agg #[.int .i64 x0.kk, .slice (some ⟨bv4, 0, none⟩) x0.vars.length x0.vars.length, .slice (some ⟨ba4, 0, none⟩) x0.args.length x0.args.length, .int .i64 x0.bound, .slice (some ⟨br4, 0, none⟩) x0.rows.length x0.rows.length] := hf 0 (show 0 ∈ [0, 1, 2, 4] by decide)
      have s36 : τ 36 = .agg #[.int .i64 x0.kk, .slice (some ⟨bv4, 0, none⟩) x0.vars.length x0.vars.length, .slice (some ⟨ba4, 0, none⟩) x0.args.length x0.args.length, .int .i64 x0.bound, .slice (some ⟨br4, 0, none⟩) x0.rows.length x0.rows.length] := (ht 0 (show 0 ∈ [0, 1, 2, 4] by decide) 36 rfl).trans f0
      have f1 : V 1 = .int .i64 n1 := hf 1 (show 1 ∈ [0, 1, 2, 4] by decide)
      have s37 : τ 37 = .int .i64 n1 := (ht 1 (show 1 ∈ [0, 1, 2, 4] by decide) 37 rfl).trans f1
      have f2 : V 2 = .slice (some ⟨b5, 0, none⟩) x2.length x2.length := hf 2 (show 2 ∈ [0, 1, 2, 4] by decide)
      have s38 : τ 38 = .slice (some ⟨b5, 0, none⟩) x2.length x2.length := (ht 2 (show 2 ∈ [0, 1, 2, 4] by decide) 38 rfl).trans f2
      have f4 : V 4 = .agg #[.int .i64 x3.x, .int .i64 x3.v] := hf 4 (show 4 ∈ [0, 1, 2, 4] by decide)
      have s40 : τ 40 = .agg #[.int .i64 x3.x, .int .i64 x3.v] := (ht 4 (show 4 ∈ [0, 1, 2, 4] by decide) 40 rfl).trans f4
      refine Does.call (w' := W) (f := 15) (args := #[.agg #[.int .i64 x0.kk, .slice (some ⟨bv4, 0, none⟩) x0.vars.length x0.vars.length, .slice (some ⟨ba4, 0, none⟩) x0.args.length x0.args.length, .int .i64 x0.bound, .slice (some ⟨br4, 0, none⟩) x0.rows.length x0.rows.length], .int .i64 n1, .slice (some ⟨b5, 0, none⟩) x2.length x2.length, .agg #[.int .i64 x3.x, .int .i64 x3.v]]) (by go_simp; all_goals (first | exact rfl | (apply And.intro <;> exact rfl))) ?_
      refine (IsExplanationI_any x0 _ _ n1 x2 x3 _ ((HC4.out.ext HC46.out).ext hC) ((HC5.out.ext HC56.out).ext hC)).mono ?_
      rintro e wa ⟨rfl, hxa⟩
      exact ⟨_, rfl, hxa, rfl⟩
    · intro V τ W hC hf ht h0
      have f5 : V 5 = .bool (expV x0 n1 x2 x3) := hf 5 (show 5 ∈ [5] by decide)
      have s41 := (ht 5 (show 5 ∈ [5] by decide) 41 rfl).trans f5
      refine Does.val (w' := W) (v := .bool (expV x0 n1 x2 x3)) ?_ ⟨Ext.refl W, rfl⟩
      go_simp
  intro V w7 hC hf
  have f0 : V 0 = .agg #[.int .i64 x0.kk, .slice (some ⟨bv4, 0, none⟩) x0.vars.length x0.vars.length, .slice (some ⟨ba4, 0, none⟩) x0.args.length x0.args.length, .int .i64 x0.bound, .slice (some ⟨br4, 0, none⟩) x0.rows.length x0.rows.length] := hf 0 (by omega)
  have f1 : V 1 = .int .i64 n1 := hf 1 (by omega)
  have f2 : V 2 = .slice (some ⟨b5, 0, none⟩) x2.length x2.length := hf 2 (by omega)
  have f3 : V 3 = .agg #[.int .i64 x3.x, .int .i64 x3.v] := hf 3 (by omega)
  have f4 : V 4 = .agg #[.int .i64 x3.x, .int .i64 x3.v] := hf 4 (by omega)
  have f5 : V 5 = .bool (expV x0 n1 x2 x3) := hf 5 (by omega)
  have f6 : V 6 = .bool (expV x0 n1 x2 x3) := hf 6 (by omega)
  clear hf
  simp only [List.take_succ_cons, List.take_zero, putAll, Act.put, List.setIfInBounds_toArray, List.set_cons_succ, List.set_cons_zero, Nat.reduceAdd, f0, f1, f2, f3, f4, f5, f6]
  simp only [nths]
  clear f0 f1 f2 f3 f4 f5 f6
  have HX7 := hide (HX6.out.trans hC)
  have HB7 := hide (HB6.out.trans hC)
  have HC47 := hide (HC46.out.trans hC)
  have HU47 := hide (HU46.out.trans hC)
  have HC57 := hide (HC56.out.trans hC)
  clear hC
  go_wp2_with fail
  -- region 14
  refine wp_region_relT (n := 5) (ts := []) (sp := [RS.q [] (fun _ => .agg #[.int .i64 x0.kk, .slice (some ⟨bv4, 0, none⟩) x0.vars.length x0.vars.length, .slice (some ⟨ba4, 0, none⟩) x0.args.length x0.args.length, .int .i64 x0.bound, .slice (some ⟨br4, 0, none⟩) x0.rows.length x0.rows.length]), RS.q [] (fun _ => .agg #[.int .i64 x0.kk, .slice Av0 x0.vars.length cv0, .slice Aa0 x0.args.length ca0, .int .i64 x0.bound, .slice Ar0 x0.rows.length cr0]), RS.p [1] (fun v W => SCon W v x0) (fun _ _ _ h hx => SCon.ext h hx), RS.q [0, 2] (fun _ => .bool (true)), RS.q [3] (fun _ => .bool (false))])
    (fun W => Ext w7 W) (by kernel_rfl) (relOK (D := [[], [], [1], [0, 2], [3]]) rfl (by kernel_rfl) rfl) (by kernel_rfl) (fun W W' h hx => h.trans hx) (Ext.refl w7).drew ?steps14 ?ends14
  case steps14 =>
    refine ⟨?_, ?_, ?_, ?_, ?_, trivial⟩
    · intro V τ W hC hf ht h0
      have s : τ 11 = .pointer (some ⟨w4.heap.size, 0, none⟩) := h0 11 (by kernel_rfl)
      have u4_0 := ((HU47.out.trans hC).cells _ _ us4).trans U4_0.out
      have u4_1 := ((HU47.out.trans hC).cells _ _ us4).trans U4_1.out
      have u4_2 := ((HU47.out.trans hC).cells _ _ us4).trans U4_2.out
      have u4_3 := ((HU47.out.trans hC).cells _ _ us4).trans U4_3.out
      have u4_4 := ((HU47.out.trans hC).cells _ _ us4).trans U4_4.out
      refine Does.val (w' := W) (v := .agg #[.int .i64 x0.kk, .slice (some ⟨bv4, 0, none⟩) x0.vars.length x0.vars.length, .slice (some ⟨ba4, 0, none⟩) x0.args.length x0.args.length, .int .i64 x0.bound, .slice (some ⟨br4, 0, none⟩) x0.rows.length x0.rows.length]) ?_ ⟨Ext.refl W, rfl⟩
      go_simp
    · intro V τ W hC hf ht h0
      have s : τ 4 = .pointer (some ⟨w.heap.size, 0, none⟩) := h0 4 (by kernel_rfl)
      have k0_0 := ((HB7.out.trans hC).cells _ _ ks0).trans K0_0.out
      have k0_1 := ((HB7.out.trans hC).cells _ _ ks0).trans K0_1.out
      have k0_2 := ((HB7.out.trans hC).cells _ _ ks0).trans K0_2.out
      have k0_3 := ((HB7.out.trans hC).cells _ _ ks0).trans K0_3.out
      have k0_4 := ((HB7.out.trans hC).cells _ _ ks0).trans K0_4.out
      refine Does.val (w' := W) (v := .agg #[.int .i64 x0.kk, .slice Av0 x0.vars.length cv0, .slice Aa0 x0.args.length ca0, .int .i64 x0.bound, .slice Ar0 x0.rows.length cr0]) ?_ ⟨Ext.refl W, rfl⟩
      go_simp
    · intro V τ W hC hf ht h0
      have f1 : V 1 = .agg #[.int .i64 x0.kk, .slice Av0 x0.vars.length cv0, .slice Aa0 x0.args.length ca0, .int .i64 x0.bound, .slice Ar0 x0.rows.length cr0] := hf 1 (show 1 ∈ [1] by decide)
      have s46 : τ 46 = .agg #[.int .i64 x0.kk, .slice Av0 x0.vars.length cv0, .slice Aa0 x0.args.length ca0, .int .i64 x0.bound, .slice Ar0 x0.rows.length cr0] := (ht 1 (show 1 ∈ [1] by decide) 46 rfl).trans f1
      refine Does.call (w' := W) (f := 12) (args := #[.agg #[.int .i64 x0.kk, .slice Av0 x0.vars.length cv0, .slice Aa0 x0.args.length ca0, .int .i64 x0.bound, .slice Ar0 x0.rows.length cr0]]) (by go_simp; all_goals (first | exact rfl | (apply And.intro <;> exact rfl))) ?_
      refine (toConstraint_any x0 _ _ _ _ (HV0.out.ext (HX7.out.trans hC)) (HA0.out.ext (HX7.out.trans hC)) (HR0.out.ext (HX7.out.trans hC))).mono ?_
      rintro e wa ⟨bvq, baq, brq, rfl, hcmq, hxq⟩
      exact ⟨_, rfl, hxq, hcmq.scon HOK0.out⟩
    · intro V τ W hC hf ht h0
      have f0 : V 0 = .agg #[.int .i64 x0.kk, .slice (some ⟨bv4, 0, none⟩) x0.vars.length x0.vars.length, .slice (some ⟨ba4, 0, none⟩) x0.args.length x0.args.length, .int .i64 x0.bound, .slice (some ⟨br4, 0, none⟩) x0.rows.length x0.rows.length] := hf 0 (show 0 ∈ [0, 2] by decide)
      have s45 : τ 45 = .agg #[.int .i64 x0.kk, .slice (some ⟨bv4, 0, none⟩) x0.vars.length x0.vars.length, .slice (some ⟨ba4, 0, none⟩) x0.args.length x0.args.length, .int .i64 x0.bound, .slice (some ⟨br4, 0, none⟩) x0.rows.length x0.rows.length] := (ht 0 (show 0 ∈ [0, 2] by decide) 45 rfl).trans f0
      have g2 : SCon W (V 2) x0 := hf 2 (show 2 ∈ [0, 2] by decide)
      have s47 : τ 47 = V 2 := ht 2 (show 2 ∈ [0, 2] by decide) 47 rfl
      refine Does.call (w' := W) (f := 16) (args := #[.agg #[.int .i64 x0.kk, .slice (some ⟨bv4, 0, none⟩) x0.vars.length x0.vars.length, .slice (some ⟨ba4, 0, none⟩) x0.args.length x0.args.length, .int .i64 x0.bound, .slice (some ⟨br4, 0, none⟩) x0.rows.length x0.rows.length], V 2]) (by go_simp; all_goals (first | exact rfl | (apply And.intro <;> exact rfl))) ?_
      refine (eqCon_same x0 _ _ _ ((HC4.out.ext HC47.out).ext hC) (g2)).mono ?_
      rintro e wa ⟨rfl, hxa⟩
      exact ⟨_, rfl, hxa, rfl⟩
    · intro V τ W hC hf ht h0
      have f3 : V 3 = .bool (true) := hf 3 (show 3 ∈ [3] by decide)
      have s48 := (ht 3 (show 3 ∈ [3] by decide) 48 rfl).trans f3
      refine Does.val (w' := W) (v := .bool (false)) ?_ ⟨Ext.refl W, rfl⟩
      go_simp
  intro V w8 hC hf
  have f0 : V 0 = .agg #[.int .i64 x0.kk, .slice (some ⟨bv4, 0, none⟩) x0.vars.length x0.vars.length, .slice (some ⟨ba4, 0, none⟩) x0.args.length x0.args.length, .int .i64 x0.bound, .slice (some ⟨br4, 0, none⟩) x0.rows.length x0.rows.length] := hf 0 (by omega)
  have f1 : V 1 = .agg #[.int .i64 x0.kk, .slice Av0 x0.vars.length cv0, .slice Aa0 x0.args.length ca0, .int .i64 x0.bound, .slice Ar0 x0.rows.length cr0] := hf 1 (by omega)
  obtain ⟨ga2, gb2, gc2, f2, -, -, -⟩ := (show SCon _ (V 2) x0 from hf 2 (by omega))
  have f3 : V 3 = .bool (true) := hf 3 (by omega)
  have f4 : V 4 = .bool (false) := hf 4 (by omega)
  clear hf
  simp only [List.take_succ_cons, List.take_zero, putAll, Act.put, List.setIfInBounds_toArray, List.set_cons_succ, List.set_cons_zero, Nat.reduceAdd, f0, f1, f2, f3, f4]
  simp only [nths]
  clear f0 f1 f2 f3 f4
  have HX8 := hide (HX7.out.trans hC)
  have HB8 := hide (HB7.out.trans hC)
  have HC48 := hide (HC47.out.trans hC)
  have HU48 := hide (HU47.out.trans hC)
  have HC58 := hide (HC57.out.trans hC)
  clear hC
  go_wp2_with fail
  refine (toRemovalS_any _ x2 _ (HP2.out.ext (HX8.out))).mono ?_
  rintro e w9 ⟨b9, -, rfl, hr9, hx9⟩
  have HC9 := hide (SRm.of_row hr9 HY2.out)
  have HX9 := hide (HX8.out.trans hx9)
  have HB9 := hide (HB8.out.trans hx9)
  have HC49 := hide (HC48.out.trans hx9)
  have HU49 := hide (HU48.out.trans hx9)
  have HC59 := hide (HC58.out.trans hx9)
  clear hx9  hr9
  have HC99 := hide (Ext.refl w9)
  go_wp2_with fail
  refine (eqRemovalS_same _ _ x2 _ (HC5.out.ext (HC59.out)) (HC9.out.ext (HC99.out))).mono ?_
  rintro e w10 ⟨rfl, hx10⟩
  have HX10 := hide (HX9.out.trans hx10)
  have HB10 := hide (HB9.out.trans hx10)
  have HC410 := hide (HC49.out.trans hx10)
  have HU410 := hide (HU49.out.trans hx10)
  have HC510 := hide (HC59.out.trans hx10)
  have HC910 := hide (HC99.out.trans hx10)
  clear hx10
  go_wp2
  go_ret
  exact Ret.mk rfl HX10.out
end Go.Proofs.Ytpnlambndbfenaa
