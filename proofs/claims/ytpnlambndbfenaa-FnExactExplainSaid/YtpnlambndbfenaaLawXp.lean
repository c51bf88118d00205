/- The law's walk: FnExactExplain returns true. -/
import Derived.Test.YtpnlambndbfenaaExpA
import Derived.Test.YtpnlambndbfenaaMkRm
namespace Go.Proofs.Ytpnlambndbfenaa
open Go.RowKit
attribute [local go_sem] evalOf

/-- What the reference returned. -/
def RS.soFnExactExplain (D : List Nat) (xs0 : List Rm) (ok : Bool) : RS := ⟨D, fun _ v W => ∃ A c, v = .tuple #[.slice A xs0.length c, .bool ok] ∧ SRm W (.slice A xs0.length c) xs0, fun _ _ _ _ ⟨A, c, h1, h2⟩ hx => ⟨A, c, h1, SRm.ext h2 hx⟩⟩
/-- What the program returned. -/
def RS.ioFnExactExplain (D : List Nat) (w0 : World) (xs0 : List Rm) (ok : Bool) : RS := ⟨D, fun _ v W => ∃ A c b m f, v = .tuple #[.slice A xs0.length c, .bool ok] ∧ xs0.length ≤ c ∧ w0.heap.size ≤ b ∧ layRm.Own W A b m f xs0, fun _ _ _ _ ⟨A, c, b, m, f, h1, h2, h3, h4⟩ hx => ⟨A, c, b, m, f, h1, h2, h3, LayOwn.ext h4 hx⟩⟩
def RS.mvFnExactExplain (D : List Nat) : RS := ⟨D, fun vs v _ => v = vs.getD 0 undef ∧ ∃ x y, v = .tuple #[x, y], fun _ _ _ _ h _ => h⟩
def fstFnExactExplain : Value → Value
  | .tuple #[x, _] => x
  | _ => undef
def sndFnExactExplain : Value → Value
  | .tuple #[_, y] => y
  | _ => undef
set_option maxRecDepth 100000 in
set_option maxHeartbeats 32000000 in
theorem lawFnExactExplain (v0 : Value) (v1 : Value) (v2 : Value) (x0 : Con) (x1 : List Int) (x2 : Rm) (w : World) (hP0 : SCon w v0 x0) (hP1 : SInts w v1 x1) (hP2 : v2 = rmW x2) :
    Calls Try.prog 8 #[v0, v1, v2] w (Ret (.bool true) w) := by
  have HP0 := hide hP0
  obtain ⟨vv0, va0, vr0, rfl, hV0, hA0, hR0⟩ := hP0
  have HOK0 := hide (okCon_of hV0 hA0 hR0)
  have HV0 := hide hV0
  have HA0 := hide hA0
  have HR0 := hide hR0
  obtain ⟨Av0, cv0, rfl, -, -⟩ := hV0.form
  obtain ⟨Aa0, ca0, rfl, -, -⟩ := hA0.form
  obtain ⟨Ar0, cr0, rfl, -, -⟩ := hR0.form
  clear hV0 hA0 hR0
  have HY1 := hide hP1.bytes
  have HZ1 := hide (fun j (hj : j < x1.length) => hP1.i64 hj)
  have HP1 := hide hP1
  obtain ⟨A1, c1, rfl, -, hl1⟩ := hP1.form
  clear hP1
  subst hP2
  rw [rmW]
  obtain ⟨w0, hw0⟩ : ∃ w0, w0 = (w.alloc (.cells #[.int .i64 x0.kk, .slice Av0 x0.vars.length cv0, .slice Aa0 x0.args.length ca0, .int .i64 x0.bound, .slice Ar0 x0.rows.length cr0] 25)).alloc (.cells #[.int .i64 x2.x, .int .i64 x2.v] 28) := ⟨_, rfl⟩
  have hx0 : Ext w w0 := by rw [hw0]; exact ((Ext.refl w).alloc _).alloc _
  have hs0 : w0.heap.size = w.heap.size + 2 := by rw [hw0]; simp
  have K0_0 := hide (show w0.cell? ⟨w.heap.size, 0, none⟩ = some (.int .i64 x0.kk) by rw [hw0]; go_simp)
  have K0_1 := hide (show w0.cell? ⟨w.heap.size, 1, none⟩ = some (.slice Av0 x0.vars.length cv0) by rw [hw0]; go_simp)
  have K0_2 := hide (show w0.cell? ⟨w.heap.size, 2, none⟩ = some (.slice Aa0 x0.args.length ca0) by rw [hw0]; go_simp)
  have K0_3 := hide (show w0.cell? ⟨w.heap.size, 3, none⟩ = some (.int .i64 x0.bound) by rw [hw0]; go_simp)
  have K0_4 := hide (show w0.cell? ⟨w.heap.size, 4, none⟩ = some (.slice Ar0 x0.rows.length cr0) by rw [hw0]; go_simp)
  have ks0 : w.heap.size < w0.heap.size := by omega
  have K2_0 := hide (show w0.cell? ⟨w.heap.size + 1, 0, none⟩ = some (.int .i64 x2.x) by rw [hw0]; go_simp)
  have K2_1 := hide (show w0.cell? ⟨w.heap.size + 1, 1, none⟩ = some (.int .i64 x2.v) by rw [hw0]; go_simp)
  have ks2 : w.heap.size + 1 < w0.heap.size := by omega
  have HX0 := hide hx0
  have HB0 := hide (Ext.refl w0)
  clear hx0
  obtain ⟨xs0, hxs0⟩ : ∃ xs0, xs0 = xplL x0 x1 x2 := ⟨_, rfl⟩
  have HXS0 := hide hxs0
  have hlb0 : xs0.length ≤ 24 := by rw [hxs0]; exact xplL_len x0 x1 x2
  clear hxs0
  obtain ⟨ok, hok⟩ : ∃ ok : Bool, ok = xplB x0 x1 x2 := ⟨_, rfl⟩
  have HOKV := hide hok
  clear hok
  have hbb : (ok != ok) = false := by simp
  rcases (show ¬ ((1048576 : Int) < x1.length) ∨ (1048576 : Int) < x1.length by omega) with hlen1 | hlen1
  case inr =>
    go_enter Try.func8, Try.ntmps8
    go_wp2
    go_ret
    rw [← hw0]
    exact Ret.mk rfl HX0.out
  have hlen1' : x1.length ≤ 1048576 := by omega
  have k0_0 := K0_0.out
  have k0_1 := K0_1.out
  have k0_2 := K0_2.out
  have k0_3 := K0_3.out
  have k0_4 := K0_4.out
  go_enter Try.func8, Try.ntmps8
  go_wp2_with fail
  rw [← hw0]
  clear hw0
  refine (szConstraint_any x0 _ _ _ _ _ (HV0.out.ext (HX0.out)) (HA0.out.ext (HX0.out)) (HR0.out.ext (HX0.out)) (by omega) (by omega)).mono ?_
  rintro e w1 ⟨r0, rfl, hr0, hx1⟩
  have HX1 := hide (HX0.out.trans hx1)
  have HB1 := hide (HB0.out.trans hx1)
  clear hx1
  clear k0_0 k0_1 k0_2 k0_3 k0_4
  rcases hr0 with rfl | ⟨hr0, hrr0⟩
  · go_wp2
    go_ret
    exact Ret.mk rfl HX1.out
  have hnr0 : ¬ (r0 < 0) := by omega
  have hle0 : r0 ≤ 1048576 := by omega
  have HRR0 := hide hrr0
  clear hrr0
  go_wp2_with fail
  refine wp_region_relT (n := 12) (ts := []) (sp := [RS.q [] (fun _ => .agg #[.int .i64 x0.kk, .slice Av0 x0.vars.length cv0, .slice Aa0 x0.args.length ca0, .int .i64 x0.bound, .slice Ar0 x0.rows.length cr0]), RS.p [0] (fun v W => SCon W v x0) (fun _ _ _ h hx => SCon.ext h hx), RS.q [] (fun _ => .slice A1 x1.length c1), RS.p [2] (fun v W => SInts W v x1) (fun _ _ _ h hx => SInts.ext h hx), RS.q [] (fun _ => .agg #[.int .i64 x2.x, .int .i64 x2.v]), RS.q [4] (fun _ => .agg #[.int .i64 x2.x, .int .i64 x2.v]), RS.soFnExactExplain [1, 3, 5] xs0 ok, RS.mvFnExactExplain [6], RS.q [7] (fun vs => fstFnExactExplain (vs.getD 0 undef)), RS.q [7] (fun vs => sndFnExactExplain (vs.getD 0 undef)), RS.q [8] (fun vs => vs.getD 0 undef), RS.q [9] (fun vs => vs.getD 0 undef)])
    (fun W => Ext w1 W) (by kernel_rfl) (relOK (D := [[], [0], [], [2], [], [4], [1, 3, 5], [6], [7], [7], [8], [9]]) rfl (by kernel_rfl) rfl) (by kernel_rfl) (fun W W' h hx => h.trans hx) (Ext.refl w1).drew ?steps7 ?ends7
  case steps7 =>
    refine ⟨?_, ?_, ?_, ?_, ?_, ?_, ?_, ?_, ?_, ?_, ?_, ?_, trivial⟩
    · intro V τ W hC hf ht h0
      have s : τ 3 = .pointer (some ⟨w.heap.size, 0, none⟩) := h0 3 (by kernel_rfl)
      have k0_0 := ((HB1.out.trans hC).cells _ _ ks0).trans K0_0.out
      have k0_1 := ((HB1.out.trans hC).cells _ _ ks0).trans K0_1.out
      have k0_2 := ((HB1.out.trans hC).cells _ _ ks0).trans K0_2.out
      have k0_3 := ((HB1.out.trans hC).cells _ _ ks0).trans K0_3.out
      have k0_4 := ((HB1.out.trans hC).cells _ _ ks0).trans K0_4.out
      refine Does.val (w' := W) (v := .agg #[.int .i64 x0.kk, .slice Av0 x0.vars.length cv0, .slice Aa0 x0.args.length ca0, .int .i64 x0.bound, .slice Ar0 x0.rows.length cr0]) ?_ ⟨Ext.refl W, rfl⟩
      go_simp
    · intro V τ W hC hf ht h0
      have f0 : V 0 = .agg #[.int .i64 x0.kk, .slice Av0 x0.vars.length cv0, .slice Aa0 x0.args.length ca0, .int .i64 x0.bound, .slice Ar0 x0.rows.length cr0] := hf 0 (show 0 ∈ [0] by decide)
      have s28 : τ 28 = .agg #[.int .i64 x0.kk, .slice Av0 x0.vars.length cv0, .slice Aa0 x0.args.length ca0, .int .i64 x0.bound, .slice Ar0 x0.rows.length cr0] := (ht 0 (show 0 ∈ [0] by decide) 28 rfl).trans f0
      refine Does.call (w' := W) (f := 12) (args := #[.agg #[.int .i64 x0.kk, .slice Av0 x0.vars.length cv0, .slice Aa0 x0.args.length ca0, .int .i64 x0.bound, .slice Ar0 x0.rows.length cr0]]) (by go_simp; all_goals (first | exact rfl | (apply And.intro <;> exact rfl))) ?_
      refine (toConstraint_any x0 _ _ _ _ (HV0.out.ext (HX1.out.trans hC)) (HA0.out.ext (HX1.out.trans hC)) (HR0.out.ext (HX1.out.trans hC))).mono ?_
      rintro e wa ⟨bvq, baq, brq, rfl, hcmq, hxq⟩
      exact ⟨_, rfl, hxq, hcmq.scon HOK0.out⟩
    · intro V τ W hC hf ht h0
      have s : τ 1 = .slice A1 x1.length c1 := h0 1 (by kernel_rfl)
      refine Does.val (w' := W) (v := .slice A1 x1.length c1) ?_ ⟨Ext.refl W, rfl⟩
      go_simp
    · intro V τ W hC hf ht h0
      have f2 : V 2 = .slice A1 x1.length c1 := hf 2 (show 2 ∈ [2] by decide)
      have s30 : τ 30 = .slice A1 x1.length c1 := (ht 2 (show 2 ∈ [2] by decide) 30 rfl).trans f2
      refine Does.call (w' := W) (f := 34) (args := #[.slice A1 x1.length c1]) (by go_simp; all_goals (first | exact rfl | (apply And.intro <;> exact rfl))) ?_
      refine (toIntS_any _ x1 _ (HP1.out.ext (HX1.out.trans hC))).mono ?_
      rintro e wa ⟨bq, -, rfl, hrq, hxq⟩
      exact ⟨_, rfl, hxq, SInts.of_row hrq HY1.out HZ1.out⟩
    · intro V τ W hC hf ht h0
      have s : τ 5 = .pointer (some ⟨w.heap.size + 1, 0, none⟩) := h0 5 (by kernel_rfl)
      have k2_0 := ((HB1.out.trans hC).cells _ _ ks2).trans K2_0.out
      have k2_1 := ((HB1.out.trans hC).cells _ _ ks2).trans K2_1.out
      refine Does.val (w' := W) (v := .agg #[.int .i64 x2.x, .int .i64 x2.v]) ?_ ⟨Ext.refl W, rfl⟩
      go_simp
    · intro V τ W hC hf ht h0
      have f4 : V 4 = .agg #[.int .i64 x2.x, .int .i64 x2.v] := hf 4 (show 4 ∈ [4] by decide)
      have s32 : τ 32 = .agg #[.int .i64 x2.x, .int .i64 x2.v] := (ht 4 (show 4 ∈ [4] by decide) 32 rfl).trans f4
      refine Does.call (w' := W) (f := 14) (args := #[.agg #[.int .i64 x2.x, .int .i64 x2.v]]) (by go_simp; all_goals (first | exact rfl | (apply And.intro <;> exact rfl))) ?_
      refine (toRemoval_any x2.x x2.v _).mono ?_
      rintro e wa ⟨rfl, hxq⟩
      exact ⟨_, rfl, hxq, rfl⟩
    · intro V τ W hC hf ht h0
      have g1 : SCon W (V 1) x0 := hf 1 (show 1 ∈ [1, 3, 5] by decide)
      have s29 : τ 29 = V 1 := ht 1 (show 1 ∈ [1, 3, 5] by decide) 29 rfl
      have g3 : SInts W (V 3) x1 := hf 3 (show 3 ∈ [1, 3, 5] by decide)
      have s31 : τ 31 = V 3 := ht 3 (show 3 ∈ [1, 3, 5] by decide) 31 rfl
      have f5 : V 5 = .agg #[.int .i64 x2.x, .int .i64 x2.v] := hf 5 (show 5 ∈ [1, 3, 5] by decide)
      have s33 : τ 33 = .agg #[.int .i64 x2.x, .int .i64 x2.v] := (ht 5 (show 5 ∈ [1, 3, 5] by decide) 33 rfl).trans f5
      refine Does.call (w' := W) (f := 33) (args := #[V 1, V 3, .agg #[.int .i64 x2.x, .int .i64 x2.v]]) (by go_simp; all_goals (first | exact rfl | (apply And.intro <;> exact rfl))) ?_
      have hcc := ExplainS_any x0 _ _ x1 x2 _ (g1) (g3)
      rw [← HXS0.out, ← HOKV.out] at hcc
      refine hcc.mono ?_
      rintro e wa ⟨A, c, rfl, hs, hx⟩
      exact ⟨_, rfl, hx, _, _, rfl, hs⟩
    · intro V τ W hC hf ht h0
      obtain ⟨A, c, e6, -⟩ := (show ∃ A c, V 6 = _ ∧ _ from hf 6 (show 6 ∈ [6] by decide))
      have s34 := ht 6 (show 6 ∈ [6] by decide) 34 rfl
      refine Does.val (w' := W) (v := V 6) ?_ ⟨Ext.refl W, rfl, _, _, e6⟩
      go_simp
    · intro V τ W hC hf ht h0
      obtain ⟨-, x, y, e7⟩ := (show V 7 = _ ∧ ∃ x y, V 7 = .tuple #[x, y] from hf 7 (show 7 ∈ [7] by decide))
      have s27 := (ht 7 (show 7 ∈ [7] by decide) 27 rfl).trans e7
      refine Does.val (w' := W) (v := fstFnExactExplain (V 7)) ?_ ⟨Ext.refl W, rfl⟩
      rw [e7]
      go_simp
      rfl
    · intro V τ W hC hf ht h0
      obtain ⟨-, x, y, e7⟩ := (show V 7 = _ ∧ ∃ x y, V 7 = .tuple #[x, y] from hf 7 (show 7 ∈ [7] by decide))
      have s27 := (ht 7 (show 7 ∈ [7] by decide) 27 rfl).trans e7
      refine Does.val (w' := W) (v := sndFnExactExplain (V 7)) ?_ ⟨Ext.refl W, rfl⟩
      rw [e7]
      go_simp
      rfl
    · intro V τ W hC hf ht h0
      have s35 := ht 8 (show 8 ∈ [8] by decide) 35 rfl
      refine Does.val (w' := W) (v := V 8) ?_ ⟨Ext.refl W, rfl⟩
      go_simp
    · intro V τ W hC hf ht h0
      have s36 := ht 9 (show 9 ∈ [9] by decide) 36 rfl
      refine Does.val (w' := W) (v := V 9) ?_ ⟨Ext.refl W, rfl⟩
      go_simp
  intro V w2 hC hf
  have f0 : V 0 = .agg #[.int .i64 x0.kk, .slice Av0 x0.vars.length cv0, .slice Aa0 x0.args.length ca0, .int .i64 x0.bound, .slice Ar0 x0.rows.length cr0] := hf 0 (by omega)
  obtain ⟨ga1, gb1, gc1, f1, -, -, -⟩ := (show SCon _ (V 1) x0 from hf 1 (by omega))
  have f2 : V 2 = .slice A1 x1.length c1 := hf 2 (by omega)
  obtain ⟨ga3, gb3, f3, -⟩ := (show SInts _ (V 3) x1 from hf 3 (by omega)).form
  have f4 : V 4 = .agg #[.int .i64 x2.x, .int .i64 x2.v] := hf 4 (by omega)
  have f5 : V 5 = .agg #[.int .i64 x2.x, .int .i64 x2.v] := hf 5 (by omega)
  obtain ⟨A2, c2, f6, hsr2⟩ := (show ∃ A c, V 6 = _ ∧ _ from hf 6 (by omega))
  obtain ⟨f7, -⟩ := (show V 7 = V 6 ∧ _ from hf 7 (by omega))
  have f8 : V 8 = .slice A2 xs0.length c2 := by have h1 : V 8 = fstFnExactExplain (V 7) := hf 8 (by omega); rw [h1, f7, f6]; rfl
  have f9 : V 9 = .bool ok := by have h1 : V 9 = sndFnExactExplain (V 7) := hf 9 (by omega); rw [h1, f7, f6]; rfl
  have f10 : V 10 = .slice A2 xs0.length c2 := by have h1 : V 10 = V 8 := hf 10 (by omega); rw [h1, f8]
  have f11 : V 11 = .bool ok := by have h1 : V 11 = V 9 := hf 11 (by omega); rw [h1, f9]
  clear hf
  simp only [List.take_succ_cons, List.take_zero, putAll, Act.put, List.setIfInBounds_toArray, List.set_cons_succ, List.set_cons_zero, Nat.reduceAdd, f0, f1, f2, f3, f4, f5, f6, f7, f8, f9, f10, f11]
  simp only [nths]
  clear f0 f1 f2 f3 f4 f5 f6 f7 f8 f9 f10 f11
  have HX2 := hide (HX1.out.trans hC)
  have HB2 := hide (HB1.out.trans hC)
  clear hC
  have HS2 := hide hsr2
  clear hsr2
  have HS2x2 := hide (Ext.refl w2)
  have k0_0 := (HB2.out.cells _ _ ks0).trans K0_0.out
  have k0_1 := (HB2.out.cells _ _ ks0).trans K0_1.out
  have k0_2 := (HB2.out.cells _ _ ks0).trans K0_2.out
  have k0_3 := (HB2.out.cells _ _ ks0).trans K0_3.out
  have k0_4 := (HB2.out.cells _ _ ks0).trans K0_4.out
  go_wp2_with fail
  have HM2 := hide (Ext.refl w2)
  refine (toConstraint_any x0 _ _ _ _ (HV0.out.ext (HX2.out)) (HA0.out.ext (HX2.out)) (HR0.out.ext (HX2.out))).mono ?_
  rintro e w3 ⟨bv3, ba3, br3, rfl, hcm3, hx3⟩
  have HC3 := hide (hcm3.scon HOK0.out)
  have HCM3 := hide hcm3
  have hMs3 := HM2.out.size
  have hst3 := hx3.size
  have HX3 := hide (HX2.out.trans hx3)
  have HB3 := hide (HB2.out.trans hx3)
  have HS2x3 := hide (HS2x2.out.trans hx3)
  have HM3 := hide (HM2.out.trans hx3)
  clear hx3 hcm3
  clear k0_0 k0_1 k0_2 k0_3 k0_4
  have HC33 := hide (Ext.refl w3)
  rw [conV] at HC3 ⊢
  go_wp2_with fail
  obtain ⟨z3, hz3⟩ : ∃ z, z = w3.alloc (.cells #[.int .i64 x0.kk, .slice (some ⟨bv3, 0, none⟩) x0.vars.length x0.vars.length, .slice (some ⟨ba3, 0, none⟩) x0.args.length x0.args.length, .int .i64 x0.bound, .slice (some ⟨br3, 0, none⟩) x0.rows.length x0.rows.length] 32) := ⟨_, rfl⟩
  have hxz3 : Ext w3 z3 := by rw [hz3]; exact (Ext.refl w3).alloc _
  have U3_0 := hide (show z3.cell? ⟨w3.heap.size, 0, none⟩ = some (.int .i64 x0.kk) by rw [hz3]; go_simp)
  have U3_1 := hide (show z3.cell? ⟨w3.heap.size, 1, none⟩ = some (.slice (some ⟨bv3, 0, none⟩) x0.vars.length x0.vars.length) by rw [hz3]; go_simp)
  have U3_2 := hide (show z3.cell? ⟨w3.heap.size, 2, none⟩ = some (.slice (some ⟨ba3, 0, none⟩) x0.args.length x0.args.length) by rw [hz3]; go_simp)
  have U3_3 := hide (show z3.cell? ⟨w3.heap.size, 3, none⟩ = some (.int .i64 x0.bound) by rw [hz3]; go_simp)
  have U3_4 := hide (show z3.cell? ⟨w3.heap.size, 4, none⟩ = some (.slice (some ⟨br3, 0, none⟩) x0.rows.length x0.rows.length) by rw [hz3]; go_simp)
  have us3 : w3.heap.size < z3.heap.size := by rw [hz3]; simp
  rw [← hz3]
  have HX4 := hide (HX3.out.trans hxz3)
  have HB4 := hide (HB3.out.trans hxz3)
  have HS2x4 := hide (HS2x3.out.trans hxz3)
  have HM4 := hide (HM3.out.trans hxz3)
  have HC34 := hide (HC33.out.trans hxz3)
  clear hz3 hxz3
  have HU34 := hide (Ext.refl z3)
  refine (toIntS_any _ x1 _ (HP1.out.ext (HX4.out))).mono ?_
  rintro e w5 ⟨b5, hlo5, rfl, hr5, hx5⟩
  have HC5 := hide (SInts.of_row hr5 HY1.out HZ1.out)
  have HRW5 := hide hr5
  have hbl5 := hr5.lt
  have hMs5 := HM4.out.size
  have hst5 := hx5.size
  have HX5 := hide (HX4.out.trans hx5)
  have HB5 := hide (HB4.out.trans hx5)
  have HS2x5 := hide (HS2x4.out.trans hx5)
  have HM5 := hide (HM4.out.trans hx5)
  have HC35 := hide (HC34.out.trans hx5)
  have HU35 := hide (HU34.out.trans hx5)
  clear hx5 hr5
  have HC55 := hide (Ext.refl w5)
  go_wp2_with fail
  refine wp_region_relT (n := 10) (ts := []) (sp := [RS.q [] (fun _ => .agg #[.int .i64 x0.kk, .slice (some ⟨bv3, 0, none⟩) x0.vars.length x0.vars.length, .slice (some ⟨ba3, 0, none⟩) x0.args.length x0.args.length, .int .i64 x0.bound, .slice (some ⟨br3, 0, none⟩) x0.rows.length x0.rows.length]), RS.q [] (fun _ => .slice (some ⟨b5, 0, none⟩) x1.length x1.length), RS.q [] (fun _ => .agg #[.int .i64 x2.x, .int .i64 x2.v]), RS.q [2] (fun _ => .agg #[.int .i64 x2.x, .int .i64 x2.v]), RS.ioFnExactExplain [0, 1, 3] w5 xs0 ok, RS.mvFnExactExplain [4], RS.q [5] (fun vs => fstFnExactExplain (vs.getD 0 undef)), RS.q [5] (fun vs => sndFnExactExplain (vs.getD 0 undef)), RS.q [6] (fun vs => vs.getD 0 undef), RS.q [7] (fun vs => vs.getD 0 undef)])
    (fun W => Ext w5 W) (by kernel_rfl) (relOK (D := [[], [], [], [2], [0, 1, 3], [4], [5], [5], [6], [7]]) rfl (by kernel_rfl) rfl) (by kernel_rfl) (fun W W' h hx => h.trans hx) (Ext.refl w5).drew ?steps10 ?ends10
  case steps10 =>
    refine ⟨?_, ?_, ?_, ?_, ?_, ?_, ?_, ?_, ?_, ?_, trivial⟩
    · intro V τ W hC hf ht h0
      have s : τ 10 = .pointer (some ⟨w3.heap.size, 0, none⟩) := h0 10 (by kernel_rfl)
      have u3_0 := ((HU35.out.trans hC).cells _ _ us3).trans U3_0.out
      have u3_1 := ((HU35.out.trans hC).cells _ _ us3).trans U3_1.out
      have u3_2 := ((HU35.out.trans hC).cells _ _ us3).trans U3_2.out
      have u3_3 := ((HU35.out.trans hC).cells _ _ us3).trans U3_3.out
      have u3_4 := ((HU35.out.trans hC).cells _ _ us3).trans U3_4.out
      refine Does.val (w' := W) (v := .agg #[.int .i64 x0.kk, .slice (some ⟨bv3, 0, none⟩) x0.vars.length x0.vars.length, .slice (some ⟨ba3, 0, none⟩) x0.args.length x0.args.length, .int .i64 x0.bound, .slice (some ⟨br3, 0, none⟩) x0.rows.length x0.rows.length]) ?_ ⟨Ext.refl W, rfl⟩
      go_simp
    · intro V τ W hC hf ht h0
      have s : τ 11 = .slice (some ⟨b5, 0, none⟩) x1.length x1.length := h0 11 (by kernel_rfl)
      refine Does.val (w' := W) (v := .slice (some ⟨b5, 0, none⟩) x1.length x1.length) ?_ ⟨Ext.refl W, rfl⟩
      go_simp
    · intro V τ W hC hf ht h0
      have s : τ 5 = .pointer (some ⟨w.heap.size + 1, 0, none⟩) := h0 5 (by kernel_rfl)
      have k2_0 := ((HB5.out.trans hC).cells _ _ ks2).trans K2_0.out
      have k2_1 := ((HB5.out.trans hC).cells _ _ ks2).trans K2_1.out
      refine Does.val (w' := W) (v := .agg #[.int .i64 x2.x, .int .i64 x2.v]) ?_ ⟨Ext.refl W, rfl⟩
      go_simp
    · intro V τ W hC hf ht h0
      have f2 : V 2 = .agg #[.int .i64 x2.x, .int .i64 x2.v] := hf 2 (show 2 ∈ [2] by decide)
      have s44 : τ 44 = .agg #[.int .i64 x2.x, .int .i64 x2.v] := (ht 2 (show 2 ∈ [2] by decide) 44 rfl).trans f2
      refine Does.call (w' := W) (f := 14) (args := #[.agg #[.int .i64 x2.x, .int .i64 x2.v]]) (by go_simp; all_goals (first | exact rfl | (apply And.intro <;> exact rfl))) ?_
      refine (toRemoval_any x2.x x2.v _).mono ?_
      rintro e wa ⟨rfl, hxq⟩
      exact ⟨_, rfl, hxq, rfl⟩
    · intro V τ W hC hf ht h0
      have f0 : V 0 = .agg #[.int .i64 x0.kk, .slice (some ⟨bv3, 0, none⟩) x0.vars.length x0.vars.length, .slice (some ⟨ba3, 0, none⟩) x0.args.length x0.args.length, .int .i64 x0.bound, .slice (some ⟨br3, 0, none⟩) x0.rows.length x0.rows.length] := hf 0 (show 0 ∈ [0, 1, 3] by decide)
      have s42 : τ 42 = .agg #[.int .i64 x0.kk, .slice (some ⟨bv3, 0, none⟩) x0.vars.length x0.vars.length, .slice (some ⟨ba3, 0, none⟩) x0.args.length x0.args.length, .int .i64 x0.bound, .slice (some ⟨br3, 0, none⟩) x0.rows.length x0.rows.length] := (ht 0 (show 0 ∈ [0, 1, 3] by decide) 42 rfl).trans f0
      have f1 : V 1 = .slice (some ⟨b5, 0, none⟩) x1.length x1.length := hf 1 (show 1 ∈ [0, 1, 3] by decide)
      have s43 : τ 43 = .slice (some ⟨b5, 0, none⟩) x1.length x1.length := (ht 1 (show 1 ∈ [0, 1, 3] by decide) 43 rfl).trans f1
      have f3 : V 3 = .agg #[.int .i64 x2.x, .int .i64 x2.v] := hf 3 (show 3 ∈ [0, 1, 3] by decide)
      have s45 : τ 45 = .agg #[.int .i64 x2.x, .int .i64 x2.v] := (ht 3 (show 3 ∈ [0, 1, 3] by decide) 45 rfl).trans f3
      refine Does.call (w' := W) (f := 35) (args := #[.agg #[.int .i64 x0.kk, .slice (some ⟨bv3, 0, none⟩) x0.vars.length x0.vars.length, .slice (some ⟨ba3, 0, none⟩) x0.args.length x0.args.length, .int .i64 x0.bound, .slice (some ⟨br3, 0, none⟩) x0.rows.length x0.rows.length], .slice (some ⟨b5, 0, none⟩) x1.length x1.length, .agg #[.int .i64 x2.x, .int .i64 x2.v]]) (by go_simp; all_goals (first | exact rfl | (apply And.intro <;> exact rfl))) ?_
      have hcc := ExplainI_any x0 _ _ x1 x2 _ ((HC3.out.ext HC35.out).ext hC) ((HC5.out.ext HC55.out).ext hC)
      rw [← HXS0.out, ← HOKV.out] at hcc
      refine hcc.mono ?_
      rintro e wa ⟨A, b, m, f, rfl, hb, ho, hx⟩
      exact ⟨_, rfl, hx, _, _, _, _, _, rfl, Nat.le_refl _, Nat.le_trans hC.size hb, ho⟩
    · intro V τ W hC hf ht h0
      obtain ⟨A, c, b, m, f, e4, -⟩ := (show ∃ A c b m f, V 4 = _ ∧ _ from hf 4 (show 4 ∈ [4] by decide))
      have s46 := ht 4 (show 4 ∈ [4] by decide) 46 rfl
      refine Does.val (w' := W) (v := V 4) ?_ ⟨Ext.refl W, rfl, _, _, e4⟩
      go_simp
    · intro V τ W hC hf ht h0
      obtain ⟨-, x, y, e5⟩ := (show V 5 = _ ∧ ∃ x y, V 5 = .tuple #[x, y] from hf 5 (show 5 ∈ [5] by decide))
      have s41 := (ht 5 (show 5 ∈ [5] by decide) 41 rfl).trans e5
      refine Does.val (w' := W) (v := fstFnExactExplain (V 5)) ?_ ⟨Ext.refl W, rfl⟩
      rw [e5]
      go_simp
      rfl
    · intro V τ W hC hf ht h0
      obtain ⟨-, x, y, e5⟩ := (show V 5 = _ ∧ ∃ x y, V 5 = .tuple #[x, y] from hf 5 (show 5 ∈ [5] by decide))
      have s41 := (ht 5 (show 5 ∈ [5] by decide) 41 rfl).trans e5
      refine Does.val (w' := W) (v := sndFnExactExplain (V 5)) ?_ ⟨Ext.refl W, rfl⟩
      rw [e5]
      go_simp
      rfl
    · intro V τ W hC hf ht h0
      have s47 := ht 6 (show 6 ∈ [6] by decide) 47 rfl
      refine Does.val (w' := W) (v := V 6) ?_ ⟨Ext.refl W, rfl⟩
      go_simp
    · intro V τ W hC hf ht h0
      have s48 := ht 7 (show 7 ∈ [7] by decide) 48 rfl
      refine Does.val (w' := W) (v := V 7) ?_ ⟨Ext.refl W, rfl⟩
      go_simp
  intro V w6 hC hf
  have f0 : V 0 = .agg #[.int .i64 x0.kk, .slice (some ⟨bv3, 0, none⟩) x0.vars.length x0.vars.length, .slice (some ⟨ba3, 0, none⟩) x0.args.length x0.args.length, .int .i64 x0.bound, .slice (some ⟨br3, 0, none⟩) x0.rows.length x0.rows.length] := hf 0 (by omega)
  have f1 : V 1 = .slice (some ⟨b5, 0, none⟩) x1.length x1.length := hf 1 (by omega)
  have f2 : V 2 = .agg #[.int .i64 x2.x, .int .i64 x2.v] := hf 2 (by omega)
  have f3 : V 3 = .agg #[.int .i64 x2.x, .int .i64 x2.v] := hf 3 (by omega)
  obtain ⟨A6, c6, b6, m6, g6, f4, hgc, hgb, hgo⟩ := (show ∃ A c b m f, V 4 = _ ∧ _ ∧ _ ∧ _ from hf 4 (by omega))
  obtain ⟨f5, -⟩ := (show V 5 = V 4 ∧ _ from hf 5 (by omega))
  have f6 : V 6 = .slice A6 xs0.length c6 := by have h1 : V 6 = fstFnExactExplain (V 5) := hf 6 (by omega); rw [h1, f5, f4]; rfl
  have f7 : V 7 = .bool ok := by have h1 : V 7 = sndFnExactExplain (V 5) := hf 7 (by omega); rw [h1, f5, f4]; rfl
  have f8 : V 8 = .slice A6 xs0.length c6 := by have h1 : V 8 = V 6 := hf 8 (by omega); rw [h1, f6]
  have f9 : V 9 = .bool ok := by have h1 : V 9 = V 7 := hf 9 (by omega); rw [h1, f7]
  clear hf
  simp only [List.take_succ_cons, List.take_zero, putAll, Act.put, List.setIfInBounds_toArray, List.set_cons_succ, List.set_cons_zero, Nat.reduceAdd, f0, f1, f2, f3, f4, f5, f6, f7, f8, f9]
  simp only [nths]
  clear f0 f1 f2 f3 f4 f5 f6 f7 f8 f9
  have HX6 := hide (HX5.out.trans hC)
  have HB6 := hide (HB5.out.trans hC)
  have HS2x6 := hide (HS2x5.out.trans hC)
  have HM6 := hide (HM5.out.trans hC)
  have HC36 := hide (HC35.out.trans hC)
  have HU36 := hide (HU35.out.trans hC)
  have HC56 := hide (HC55.out.trans hC)
  clear hC
  have HG6 := hide hgo
  clear hgo
  have hgs3 : w3.heap.size ≤ b6 := Nat.le_trans HC35.out.size hgb
  have hgs5 : w5.heap.size ≤ b6 := Nat.le_trans HC55.out.size hgb
  go_wp2_with fail
  refine (eqRemovalS_same _ _ xs0 _ (layRm_S (LayOwn.S layRmOk HG6.out hgc (show xs0.length * 16 ≤ 140737488355328 by omega))) (SRm.ext HS2.out (HS2x6.out))).mono ?_
  rintro e w7 ⟨rfl, hx7⟩
  have HX7 := hide (HX6.out.trans hx7)
  have HB7 := hide (HB6.out.trans hx7)
  have HS2x7 := hide (HS2x6.out.trans hx7)
  have HM7 := hide (HM6.out.trans hx7)
  have HC37 := hide (HC36.out.trans hx7)
  have HU37 := hide (HU36.out.trans hx7)
  have HC57 := hide (HC56.out.trans hx7)
  have HG7 := hide (LayOwn.ext HG6.out hx7)
  clear hx7
  go_wp2_with fail
  refine wp_region_relT (n := 5) (ts := []) (sp := [RS.q [] (fun _ => .agg #[.int .i64 x0.kk, .slice (some ⟨bv3, 0, none⟩) x0.vars.length x0.vars.length, .slice (some ⟨ba3, 0, none⟩) x0.args.length x0.args.length, .int .i64 x0.bound, .slice (some ⟨br3, 0, none⟩) x0.rows.length x0.rows.length]), RS.q [] (fun _ => .agg #[.int .i64 x0.kk, .slice Av0 x0.vars.length cv0, .slice Aa0 x0.args.length ca0, .int .i64 x0.bound, .slice Ar0 x0.rows.length cr0]), RS.p [1] (fun v W => SCon W v x0) (fun _ _ _ h hx => SCon.ext h hx), RS.q [0, 2] (fun _ => .bool (true)), RS.q [3] (fun _ => .bool (false))])
    (fun W => Ext w7 W) (by kernel_rfl) (relOK (D := [[], [], [1], [0, 2], [3]]) rfl (by kernel_rfl) rfl) (by kernel_rfl) (fun W W' h hx => h.trans hx) (Ext.refl w7).drew ?steps13 ?ends13
  case steps13 =>
    refine ⟨?_, ?_, ?_, ?_, ?_, trivial⟩
    · intro V τ W hC hf ht h0
      have s : τ 10 = .pointer (some ⟨w3.heap.size, 0, none⟩) := h0 10 (by kernel_rfl)
      have u3_0 := ((HU37.out.trans hC).cells _ _ us3).trans U3_0.out
      have u3_1 := ((HU37.out.trans hC).cells _ _ us3).trans U3_1.out
      have u3_2 := ((HU37.out.trans hC).cells _ _ us3).trans U3_2.out
      have u3_3 := ((HU37.out.trans hC).cells _ _ us3).trans U3_3.out
      have u3_4 := ((HU37.out.trans hC).cells _ _ us3).trans U3_4.out
      refine Does.val (w' := W) (v := .agg #[.int .i64 x0.kk, .slice (some ⟨bv3, 0, none⟩) x0.vars.length x0.vars.length, .slice (some ⟨ba3, 0, none⟩) x0.args.length x0.args.length, .int .i64 x0.bound, .slice (some ⟨br3, 0, none⟩) x0.rows.length x0.rows.length]) ?_ ⟨Ext.refl W, rfl⟩
      go_simp
    · intro V τ W hC hf ht h0
      have s : τ 3 = .pointer (some ⟨w.heap.size, 0, none⟩) := h0 3 (by kernel_rfl)
      have k0_0 := ((HB7.out.trans hC).cells _ _ ks0).trans K0_0.out
      have k0_1 := ((HB7.out.trans hC).cells _ _ ks0).trans K0_1.out
      have k0_2 := ((HB7.out.trans hC).cells _ _ ks0).trans K0_2.out
      have k0_3 := ((HB7.out.trans hC).cells _ _ ks0).trans K0_3.out
      have k0_4 := ((HB7.out.trans hC).cells _ _ ks0).trans K0_4.out
      refine Does.val (w' := W) (v := .agg #[.int .i64 x0.kk, .slice Av0 x0.vars.length cv0, .slice Aa0 x0.args.length ca0, .int .i64 x0.bound, .slice Ar0 x0.rows.length cr0]) ?_ ⟨Ext.refl W, rfl⟩
      go_simp
    · intro V τ W hC hf ht h0
      have f1 : V 1 = .agg #[.int .i64 x0.kk, .slice Av0 x0.vars.length cv0, .slice Aa0 x0.args.length ca0, .int .i64 x0.bound, .slice Ar0 x0.rows.length cr0] := hf 1 (show 1 ∈ [1] by decide)
      have s59 : τ 59 = .agg #[.int .i64 x0.kk, .slice Av0 x0.vars.length cv0, .slice Aa0 x0.args.length ca0, .int .i64 x0.bound, .slice Ar0 x0.rows.length cr0] := (ht 1 (show 1 ∈ [1] by decide) 59 rfl).trans f1
      refine Does.call (w' := W) (f := 12) (args := #[.agg #[.int .i64 x0.kk, .slice Av0 x0.vars.length cv0, .slice Aa0 x0.args.length ca0, .int .i64 x0.bound, .slice Ar0 x0.rows.length cr0]]) (by go_simp; all_goals (first | exact rfl | (apply And.intro <;> exact rfl))) ?_
      refine (toConstraint_any x0 _ _ _ _ (HV0.out.ext (HX7.out.trans hC)) (HA0.out.ext (HX7.out.trans hC)) (HR0.out.ext (HX7.out.trans hC))).mono ?_
      rintro e wa ⟨bvq, baq, brq, rfl, hcmq, hxq⟩
      exact ⟨_, rfl, hxq, hcmq.scon HOK0.out⟩
    · intro V τ W hC hf ht h0
      have f0 : V 0 = .agg #[.int .i64 x0.kk, .slice (some ⟨bv3, 0, none⟩) x0.vars.length x0.vars.length, .slice (some ⟨ba3, 0, none⟩) x0.args.length x0.args.length, .int .i64 x0.bound, .slice (some ⟨br3, 0, none⟩) x0.rows.length x0.rows.length] := hf 0 (show 0 ∈ [0, 2] by decide)
      have s58 : τ 58 = .agg #[.int .i64 x0.kk, .slice (some ⟨bv3, 0, none⟩) x0.vars.length x0.vars.length, .slice (some ⟨ba3, 0, none⟩) x0.args.length x0.args.length, .int .i64 x0.bound, .slice (some ⟨br3, 0, none⟩) x0.rows.length x0.rows.length] := (ht 0 (show 0 ∈ [0, 2] by decide) 58 rfl).trans f0
      have g2 : SCon W (V 2) x0 := hf 2 (show 2 ∈ [0, 2] by decide)
      have s60 : τ 60 = V 2 := ht 2 (show 2 ∈ [0, 2] by decide) 60 rfl
      refine Does.call (w' := W) (f := 16) (args := #[.agg #[.int .i64 x0.kk, .slice (some ⟨bv3, 0, none⟩) x0.vars.length x0.vars.length, .slice (some ⟨ba3, 0, none⟩) x0.args.length x0.args.length, .int .i64 x0.bound, .slice (some ⟨br3, 0, none⟩) x0.rows.length x0.rows.length], V 2]) (by go_simp; all_goals (first | exact rfl | (apply And.intro <;> exact rfl))) ?_
      refine (eqCon_same x0 _ _ _ ((HC3.out.ext HC37.out).ext hC) (g2)).mono ?_
      rintro e wa ⟨rfl, hxa⟩
      exact ⟨_, rfl, hxa, rfl⟩
    · intro V τ W hC hf ht h0
      have f3 : V 3 = .bool (true) := hf 3 (show 3 ∈ [3] by decide)
      have s61 := (ht 3 (show 3 ∈ [3] by decide) 61 rfl).trans f3
      refine Does.val (w' := W) (v := .bool (false)) ?_ ⟨Ext.refl W, rfl⟩
      go_simp
  intro V w8 hC hf
  have f0 : V 0 = .agg #[.int .i64 x0.kk, .slice (some ⟨bv3, 0, none⟩) x0.vars.length x0.vars.length, .slice (some ⟨ba3, 0, none⟩) x0.args.length x0.args.length, .int .i64 x0.bound, .slice (some ⟨br3, 0, none⟩) x0.rows.length x0.rows.length] := hf 0 (by omega)
  have f1 : V 1 = .agg #[.int .i64 x0.kk, .slice Av0 x0.vars.length cv0, .slice Aa0 x0.args.length ca0, .int .i64 x0.bound, .slice Ar0 x0.rows.length cr0] := hf 1 (by omega)
  obtain ⟨ga2, gb2, gc2, f2, -, -, -⟩ := (show SCon _ (V 2) x0 from hf 2 (by omega))
  have f3 : V 3 = .bool (true) := hf 3 (by omega)
  have f4 : V 4 = .bool (false) := hf 4 (by omega)
  clear hf
  simp only [List.take_succ_cons, List.take_zero, putAll, Act.put, List.setIfInBounds_toArray, List.set_cons_succ, List.set_cons_zero, Nat.reduceAdd, f0, f1, f2, f3, f4]
  simp only [nths]
  clear f0 f1 f2 f3 f4
  have HX8 := hide (HX7.out.trans hC)
  have HB8 := hide (HB7.out.trans hC)
  have HS2x8 := hide (HS2x7.out.trans hC)
  have HM8 := hide (HM7.out.trans hC)
  have HC38 := hide (HC37.out.trans hC)
  have HU38 := hide (HU37.out.trans hC)
  have HC58 := hide (HC57.out.trans hC)
  have HG8 := hide (LayOwn.ext HG7.out hC)
  clear hC
  go_wp2_with fail
  refine (toIntS_any _ x1 _ (HP1.out.ext (HX8.out))).mono ?_
  rintro e w9 ⟨b9, hlo9, rfl, hr9, hx9⟩
  have HC9 := hide (SInts.of_row hr9 HY1.out HZ1.out)
  have HRW9 := hide hr9
  have hbl9 := hr9.lt
  have hMs9 := HM8.out.size
  have hst9 := hx9.size
  have HX9 := hide (HX8.out.trans hx9)
  have HB9 := hide (HB8.out.trans hx9)
  have HS2x9 := hide (HS2x8.out.trans hx9)
  have HM9 := hide (HM8.out.trans hx9)
  have HC39 := hide (HC38.out.trans hx9)
  have HU39 := hide (HU38.out.trans hx9)
  have HC59 := hide (HC58.out.trans hx9)
  have HG9 := hide (LayOwn.ext HG8.out hx9)
  clear hx9 hr9
  have HC99 := hide (Ext.refl w9)
  go_wp2_with fail
  refine (eqIntS_same _ _ x1 _ (HC5.out.ext (HC59.out)) (HC9.out.ext (HC99.out))).mono ?_
  rintro e w10 ⟨rfl, hx10⟩
  have HX10 := hide (HX9.out.trans hx10)
  have HB10 := hide (HB9.out.trans hx10)
  have HS2x10 := hide (HS2x9.out.trans hx10)
  have HM10 := hide (HM9.out.trans hx10)
  have HC310 := hide (HC39.out.trans hx10)
  have HU310 := hide (HU39.out.trans hx10)
  have HC510 := hide (HC59.out.trans hx10)
  have HC910 := hide (HC99.out.trans hx10)
  have HG10 := hide (LayOwn.ext HG9.out hx10)
  clear hx10
  have u3_0 := (HU310.out.cells _ _ us3).trans U3_0.out
  have u3_1 := (HU310.out.cells _ _ us3).trans U3_1.out
  have u3_2 := (HU310.out.cells _ _ us3).trans U3_2.out
  have u3_3 := (HU310.out.cells _ _ us3).trans U3_3.out
  have u3_4 := (HU310.out.cells _ _ us3).trans U3_4.out
  go_wp2_with fail
  refine (markCon_any HCM3.out HC310.out (show szC x0 ≤ 1048576 by have := HRR0.out; omega)).mono ?_
  rintro e w11 ⟨k11, rfl, hka11, hkb11, hkp11⟩
  have hMq11 := HM10.out.size
  have HM11 := hide (show Ext w2 w11 from Below.trans HM10.out (hkp11.below HM10.out.size (fun k hk => Or.inl (by omega))))
  have HG11 := hide (LayOwn.kp HG10.out hkp11 (Or.inr (by omega)))
  have HRW5_11 := hide (hkp11.row (Or.inr (by omega)) ((HC510.out).row HRW5.out))
  clear hkp11 hMq11
  clear u3_0 u3_1 u3_2 u3_3 u3_4
  have hkn11 : ¬ (k11 < 0) := by omega
  go_wp2_with fail
  refine (markIntS_any _ x1.length x1.length b5 _ _ k11 _ (by omega) (by omega) (by omega) (hide fun _ => ⟨rfl, HRW5_11.out, Nat.le_refl _⟩)).mono ?_
  rintro e w12 ⟨rfl, hgr12, -⟩
  have hkp12 : Keep (fun k => k ≠ b5) w11 w12 := (Keep.ofG hgr12).mono (fun k _ hk e => by unfold rowOf at e; split at e <;> simp at e; exact hk e.symm)
  clear hgr12
  have hMq12 := HM11.out.size
  have HM12 := hide (show Ext w2 w12 from Below.trans HM11.out (hkp12.below HM11.out.size (fun k hk => by show k ≠ b5; omega)))
  have HG12 := hide (LayOwn.kp HG11.out hkp12 (show b6 ≠ b5 by omega))
  clear hkp12 hMq12
  have hkn12 : ¬ ((k11 + (x1.length : Int)) < 0) := by omega
  go_wp2_with fail
  refine (eqRemovalS_same _ _ xs0 _ (layRm_S (LayOwn.S layRmOk HG12.out hgc (show xs0.length * 16 ≤ 140737488355328 by omega))) (SRm.ext HS2.out ((HS2x2.out.trans HM12.out)))).mono ?_
  rintro e w13 ⟨rfl, hx13⟩
  have HM13 := hide (HM12.out.trans hx13)
  have HG13 := hide (LayOwn.ext HG12.out hx13)
  clear hx13
  go_wp2_with fail
  refine (markRms_any A6 xs0.length c6 b6 m6 g6 1 _ (by omega) (by omega) (by omega) (hide fun hp => ⟨(HG13.out hp).1, (HG13.out hp).2.1, (HG13.out hp).2.2.1⟩)).mono ?_
  rintro e w14 ⟨rfl, hgr14, hrw14⟩
  have hMq14 := HM13.out.size
  have HM14 := hide (show Ext w2 w14 from Below.trans HM13.out ((Keep.ofG hgr14).below HM13.out.size (fun k hk e => by unfold rowOf at e; split at e <;> simp at e; omega)))
  have HG14 : Hid (0 < xs0.length → A6 = some ⟨b6, 0, none⟩ ∧ w14.rowIs b6 36 m6 (mcell 1 g6 (xs0.length * 2)) ∧ xs0.length * 2 ≤ m6) := hide fun hp => ⟨(HG13.out hp).1, by exact hrw14 (by omega), (show xs0.length * 2 ≤ m6 from (HG13.out hp).2.2.1)⟩
  clear hgr14 hrw14 hMq14
  have hq1 : ¬ (((1 : Int) + (xs0.length * 2 : Nat)) < 0) := by omega
  have hq2 : (((1 : Int) + (xs0.length * 2 : Nat)) != ((1 : Int) + (xs0.length * 2 : Nat))) = false := by simp
  go_wp2_with fail
  refine (heldRms_any A6 xs0.length c6 b6 m6 g6 1 _ (by omega) (by omega) (by omega) HG14).mono ?_
  rintro e w15 ⟨rfl, rfl⟩
  have HM15 := HM14
  have HG15 := HG14
  go_wp2_with fail
  refine wp_region_relT (n := 12) (ts := []) (sp := [RS.q [] (fun _ => .agg #[.int .i64 x0.kk, .slice Av0 x0.vars.length cv0, .slice Aa0 x0.args.length ca0, .int .i64 x0.bound, .slice Ar0 x0.rows.length cr0]), RS.p [0] (fun v W => SCon W v x0) (fun _ _ _ h hx => SCon.ext h hx), RS.q [] (fun _ => .slice A1 x1.length c1), RS.p [2] (fun v W => SInts W v x1) (fun _ _ _ h hx => SInts.ext h hx), RS.q [] (fun _ => .agg #[.int .i64 x2.x, .int .i64 x2.v]), RS.q [4] (fun _ => .agg #[.int .i64 x2.x, .int .i64 x2.v]), RS.soFnExactExplain [1, 3, 5] xs0 ok, RS.mvFnExactExplain [6], RS.q [7] (fun vs => fstFnExactExplain (vs.getD 0 undef)), RS.q [7] (fun vs => sndFnExactExplain (vs.getD 0 undef)), RS.q [8] (fun vs => vs.getD 0 undef), RS.q [9] (fun vs => vs.getD 0 undef)])
    (fun W => Ext w14 W) (by kernel_rfl) (relOK (D := [[], [0], [], [2], [], [4], [1, 3, 5], [6], [7], [7], [8], [9]]) rfl (by kernel_rfl) rfl) (by kernel_rfl) (fun W W' h hx => h.trans hx) (Ext.refl w14).drew ?steps30 ?ends30
  case steps30 =>
    refine ⟨?_, ?_, ?_, ?_, ?_, ?_, ?_, ?_, ?_, ?_, ?_, ?_, trivial⟩
    · intro V τ W hC hf ht h0
      have s : τ 3 = .pointer (some ⟨w.heap.size, 0, none⟩) := h0 3 (by kernel_rfl)
      have k0_0 := (((HB2.out.trans HM15.out).trans hC).cells _ _ ks0).trans K0_0.out
      have k0_1 := (((HB2.out.trans HM15.out).trans hC).cells _ _ ks0).trans K0_1.out
      have k0_2 := (((HB2.out.trans HM15.out).trans hC).cells _ _ ks0).trans K0_2.out
      have k0_3 := (((HB2.out.trans HM15.out).trans hC).cells _ _ ks0).trans K0_3.out
      have k0_4 := (((HB2.out.trans HM15.out).trans hC).cells _ _ ks0).trans K0_4.out
      refine Does.val (w' := W) (v := .agg #[.int .i64 x0.kk, .slice Av0 x0.vars.length cv0, .slice Aa0 x0.args.length ca0, .int .i64 x0.bound, .slice Ar0 x0.rows.length cr0]) ?_ ⟨Ext.refl W, rfl⟩
      go_simp
    · intro V τ W hC hf ht h0
      have f0 : V 0 = .agg #[.int .i64 x0.kk, .slice Av0 x0.vars.length cv0, .slice Aa0 x0.args.length ca0, .int .i64 x0.bound, .slice Ar0 x0.rows.length cr0] := hf 0 (show 0 ∈ [0] by decide)
      have s99 : τ 99 = .agg #[.int .i64 x0.kk, .slice Av0 x0.vars.length cv0, .slice Aa0 x0.args.length ca0, .int .i64 x0.bound, .slice Ar0 x0.rows.length cr0] := (ht 0 (show 0 ∈ [0] by decide) 99 rfl).trans f0
      refine Does.call (w' := W) (f := 12) (args := #[.agg #[.int .i64 x0.kk, .slice Av0 x0.vars.length cv0, .slice Aa0 x0.args.length ca0, .int .i64 x0.bound, .slice Ar0 x0.rows.length cr0]]) (by go_simp; all_goals (first | exact rfl | (apply And.intro <;> exact rfl))) ?_
      refine (toConstraint_any x0 _ _ _ _ (HV0.out.ext ((HX2.out.trans HM15.out).trans hC)) (HA0.out.ext ((HX2.out.trans HM15.out).trans hC)) (HR0.out.ext ((HX2.out.trans HM15.out).trans hC))).mono ?_
      rintro e wa ⟨bvq, baq, brq, rfl, hcmq, hxq⟩
      exact ⟨_, rfl, hxq, hcmq.scon HOK0.out⟩
    · intro V τ W hC hf ht h0
      have s : τ 1 = .slice A1 x1.length c1 := h0 1 (by kernel_rfl)
      refine Does.val (w' := W) (v := .slice A1 x1.length c1) ?_ ⟨Ext.refl W, rfl⟩
      go_simp
    · intro V τ W hC hf ht h0
      have f2 : V 2 = .slice A1 x1.length c1 := hf 2 (show 2 ∈ [2] by decide)
      have s101 : τ 101 = .slice A1 x1.length c1 := (ht 2 (show 2 ∈ [2] by decide) 101 rfl).trans f2
      refine Does.call (w' := W) (f := 34) (args := #[.slice A1 x1.length c1]) (by go_simp; all_goals (first | exact rfl | (apply And.intro <;> exact rfl))) ?_
      refine (toIntS_any _ x1 _ (HP1.out.ext ((HX2.out.trans HM15.out).trans hC))).mono ?_
      rintro e wa ⟨bq, -, rfl, hrq, hxq⟩
      exact ⟨_, rfl, hxq, SInts.of_row hrq HY1.out HZ1.out⟩
    · intro V τ W hC hf ht h0
      have s : τ 5 = .pointer (some ⟨w.heap.size + 1, 0, none⟩) := h0 5 (by kernel_rfl)
      have k2_0 := (((HB2.out.trans HM15.out).trans hC).cells _ _ ks2).trans K2_0.out
      have k2_1 := (((HB2.out.trans HM15.out).trans hC).cells _ _ ks2).trans K2_1.out
      refine Does.val (w' := W) (v := .agg #[.int .i64 x2.x, .int .i64 x2.v]) ?_ ⟨Ext.refl W, rfl⟩
      go_simp
    · intro V τ W hC hf ht h0
      have f4 : V 4 = .agg #[.int .i64 x2.x, .int .i64 x2.v] := hf 4 (show 4 ∈ [4] by decide)
      have s103 : τ 103 = .agg #[.int .i64 x2.x, .int .i64 x2.v] := (ht 4 (show 4 ∈ [4] by decide) 103 rfl).trans f4
      refine Does.call (w' := W) (f := 14) (args := #[.agg #[.int .i64 x2.x, .int .i64 x2.v]]) (by go_simp; all_goals (first | exact rfl | (apply And.intro <;> exact rfl))) ?_
      refine (toRemoval_any x2.x x2.v _).mono ?_
      rintro e wa ⟨rfl, hxq⟩
      exact ⟨_, rfl, hxq, rfl⟩
    · intro V τ W hC hf ht h0
      have g1 : SCon W (V 1) x0 := hf 1 (show 1 ∈ [1, 3, 5] by decide)
      have s100 : τ 100 = V 1 := ht 1 (show 1 ∈ [1, 3, 5] by decide) 100 rfl
      have g3 : SInts W (V 3) x1 := hf 3 (show 3 ∈ [1, 3, 5] by decide)
      have s102 : τ 102 = V 3 := ht 3 (show 3 ∈ [1, 3, 5] by decide) 102 rfl
      have f5 : V 5 = .agg #[.int .i64 x2.x, .int .i64 x2.v] := hf 5 (show 5 ∈ [1, 3, 5] by decide)
      have s104 : τ 104 = .agg #[.int .i64 x2.x, .int .i64 x2.v] := (ht 5 (show 5 ∈ [1, 3, 5] by decide) 104 rfl).trans f5
      refine Does.call (w' := W) (f := 35) (args := #[V 1, V 3, .agg #[.int .i64 x2.x, .int .i64 x2.v]]) (by go_simp; all_goals (first | exact rfl | (apply And.intro <;> exact rfl))) ?_
      have hcc := ExplainI_any x0 _ _ x1 x2 _ (g1) (g3)
      rw [← HXS0.out, ← HOKV.out] at hcc
      refine hcc.mono ?_
      rintro e wa ⟨A, b, m, f, rfl, hb, ho, hx⟩
      exact ⟨_, rfl, hx, _, _, rfl, layRm_S (LayOwn.S layRmOk ho (Nat.le_refl _) (show xs0.length * 16 ≤ 140737488355328 by omega))⟩
    · intro V τ W hC hf ht h0
      obtain ⟨A, c, e6, -⟩ := (show ∃ A c, V 6 = _ ∧ _ from hf 6 (show 6 ∈ [6] by decide))
      have s105 := ht 6 (show 6 ∈ [6] by decide) 105 rfl
      refine Does.val (w' := W) (v := V 6) ?_ ⟨Ext.refl W, rfl, _, _, e6⟩
      go_simp
    · intro V τ W hC hf ht h0
      obtain ⟨-, x, y, e7⟩ := (show V 7 = _ ∧ ∃ x y, V 7 = .tuple #[x, y] from hf 7 (show 7 ∈ [7] by decide))
      have s98 := (ht 7 (show 7 ∈ [7] by decide) 98 rfl).trans e7
      refine Does.val (w' := W) (v := fstFnExactExplain (V 7)) ?_ ⟨Ext.refl W, rfl⟩
      rw [e7]
      go_simp
      rfl
    · intro V τ W hC hf ht h0
      obtain ⟨-, x, y, e7⟩ := (show V 7 = _ ∧ ∃ x y, V 7 = .tuple #[x, y] from hf 7 (show 7 ∈ [7] by decide))
      have s98 := (ht 7 (show 7 ∈ [7] by decide) 98 rfl).trans e7
      refine Does.val (w' := W) (v := sndFnExactExplain (V 7)) ?_ ⟨Ext.refl W, rfl⟩
      rw [e7]
      go_simp
      rfl
    · intro V τ W hC hf ht h0
      have s106 := ht 8 (show 8 ∈ [8] by decide) 106 rfl
      refine Does.val (w' := W) (v := V 8) ?_ ⟨Ext.refl W, rfl⟩
      go_simp
    · intro V τ W hC hf ht h0
      have s107 := ht 9 (show 9 ∈ [9] by decide) 107 rfl
      refine Does.val (w' := W) (v := V 9) ?_ ⟨Ext.refl W, rfl⟩
      go_simp
  intro V w16 hC hf
  have f0 : V 0 = .agg #[.int .i64 x0.kk, .slice Av0 x0.vars.length cv0, .slice Aa0 x0.args.length ca0, .int .i64 x0.bound, .slice Ar0 x0.rows.length cr0] := hf 0 (by omega)
  obtain ⟨ga1, gb1, gc1, f1, -, -, -⟩ := (show SCon _ (V 1) x0 from hf 1 (by omega))
  have f2 : V 2 = .slice A1 x1.length c1 := hf 2 (by omega)
  obtain ⟨ga3, gb3, f3, -⟩ := (show SInts _ (V 3) x1 from hf 3 (by omega)).form
  have f4 : V 4 = .agg #[.int .i64 x2.x, .int .i64 x2.v] := hf 4 (by omega)
  have f5 : V 5 = .agg #[.int .i64 x2.x, .int .i64 x2.v] := hf 5 (by omega)
  obtain ⟨A16, c16, f6, hsr16⟩ := (show ∃ A c, V 6 = _ ∧ _ from hf 6 (by omega))
  obtain ⟨f7, -⟩ := (show V 7 = V 6 ∧ _ from hf 7 (by omega))
  have f8 : V 8 = .slice A16 xs0.length c16 := by have h1 : V 8 = fstFnExactExplain (V 7) := hf 8 (by omega); rw [h1, f7, f6]; rfl
  have f9 : V 9 = .bool ok := by have h1 : V 9 = sndFnExactExplain (V 7) := hf 9 (by omega); rw [h1, f7, f6]; rfl
  have f10 : V 10 = .slice A16 xs0.length c16 := by have h1 : V 10 = V 8 := hf 10 (by omega); rw [h1, f8]
  have f11 : V 11 = .bool ok := by have h1 : V 11 = V 9 := hf 11 (by omega); rw [h1, f9]
  clear hf
  simp only [List.take_succ_cons, List.take_zero, putAll, Act.put, List.setIfInBounds_toArray, List.set_cons_succ, List.set_cons_zero, Nat.reduceAdd, f0, f1, f2, f3, f4, f5, f6, f7, f8, f9, f10, f11]
  simp only [nths]
  clear f0 f1 f2 f3 f4 f5 f6 f7 f8 f9 f10 f11
  have HM16 := hide (HM15.out.trans hC)
  have HG16 := hide (fun hp => ⟨(HG15.out hp).1, Ext.row hC (HG15.out hp).2.1, (HG15.out hp).2.2⟩ : 0 < xs0.length → A6 = some ⟨b6, 0, none⟩ ∧ w16.rowIs b6 36 m6 (mcell 1 g6 (xs0.length * 2)) ∧ xs0.length * 2 ≤ m6)
  clear hC
  have HS16 := hide hsr16
  clear hsr16
  have HS16x16 := hide (Ext.refl w16)
  go_wp2_with fail
  refine (eqRemovalS_same _ _ xs0 _ (SRm.ext HS16.out (HS16x16.out)) (SRm.ext HS2.out ((HS2x2.out.trans HM16.out)))).mono ?_
  rintro e w17 ⟨rfl, hx17⟩
  have HM17 := hide (HM16.out.trans hx17)
  have HS16x17 := hide (HS16x16.out.trans hx17)
  have HG17 := hide (fun hp => ⟨(HG16.out hp).1, Ext.row hx17 (HG16.out hp).2.1, (HG16.out hp).2.2⟩ : 0 < xs0.length → A6 = some ⟨b6, 0, none⟩ ∧ w17.rowIs b6 36 m6 (mcell 1 g6 (xs0.length * 2)) ∧ xs0.length * 2 ≤ m6)
  clear hx17
  go_wp2_with fail
  refine (heldRms_any A6 xs0.length c6 b6 m6 g6 1 _ (by omega) (by omega) (by omega) HG17).mono ?_
  rintro e w18 ⟨rfl, rfl⟩
  have HM18 := HM17
  have HS16x18 := HS16x17
  have HG18 := HG17
  go_wp2
  go_ret
  exact Ret.mk rfl (HX2.out.trans HM18.out)
end Go.Proofs.Ytpnlambndbfenaa
