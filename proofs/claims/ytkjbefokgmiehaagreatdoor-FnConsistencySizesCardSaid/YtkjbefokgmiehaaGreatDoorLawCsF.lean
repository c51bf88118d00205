/- The law's walk: FnConsistencySizes returns true. Printed by genlawcsf.py. -/
import Derived.Test.YtkjbefokgmiehaaGreatDoorDrwC
import Derived.Test.YtkjbefokgmiehaaGreatDoorLwD
import Derived.Test.YtkjbefokgmiehaaGreatDoorLwB
import Derived.Test.YtkjbefokgmiehaaGreatDoorCsW
import Derived.Test.YtkjbefokgmiehaaGreatDoorCsPl
import Derived.Test.YtkjbefokgmiehaaGreatDoorShvZ
import Derived.Deep.CutBlock
import Derived.Deep.DeepCutAuto
namespace Go.Proofs.YtkjbefokgmiehaaGreatDoor
open Go.RowKit
attribute [local go_sem] evalOf

theorem SInts.lit (w : World) (xs : List Int) (hl : xs.length ≤ 1000) (hi : ∀ j, j < xs.length → I64 (at0 xs j)) : SInts (w.alloc (.cells (xs.map vI).toArray 3)) (.slice (some ⟨w.heap.size, 0, none⟩) xs.length xs.length) xs :=
  ⟨_, _, rfl, Nat.le_refl _, by omega, hi, fun _ => ⟨w.heap.size, 0, rfl, by simp, fun i hi => by
    rw [Nat.zero_add]
    refine (World.cell?_alloc_at _ _ _ _ rfl).trans ?_
    unfold at0
    rw [getD_lt _ _ hi]
    simp [hi, vI]⟩⟩
/-- What the law says. -/
theorem sizes_all {ds : List Int} {cs : List Con} (hv : vMod ds cs = true) : csV ds cs = cszL cs ds ∧ bndV ds cs = bndR cs ds ∧ prpV ds cs = propL cs ds ∧ shvV ds cs = shaveL cs ds ∧ bbV ds cs = bbL cs ds ∧
    (DomL ds ∧ DomL (bndR cs ds) ∧ DomL (propL cs ds) ∧ DomL (shaveL cs ds) ∧ DomL (bbL cs ds)) ∧ ((bndR cs ds).length = ds.length ∧ (propL cs ds).length = ds.length ∧ (shaveL cs ds).length = ds.length ∧ (bbL cs ds).length = ds.length) ∧ 0 < ds.length ∧ ds.length ≤ 4 ∧
    ∀ k, 1 ≤ k → k < 5 → at0 (cszL cs ds) k ≤ at0 (cszL cs ds) (k - 1) := by
  obtain ⟨hG, hp, h4⟩ := vMod_good hv
  obtain ⟨hg1, hs1, -⟩ := bndR_R hG h4
  obtain ⟨hg3, hs3, -⟩ := shave_R hG h4
  have hg2 := (propL_R hG h4).good
  obtain ⟨l4, g4⟩ := bbL_good cs ds
  have m1 := tot_le hs1 hg1.2.1 hG.2.1
  have m2 := tot_le (prop_bnd hG h4) hg2.2.1 hg1.2.1
  have m3 := tot_le (shave_prop hG h4) hg3.2.1 hg2.2.1
  have m4 := tot_le (bb_shave hG h4) g4 hg3.2.1
  refine ⟨by rw [csV, if_pos hv], by rw [bndV, if_pos hv], by rw [prpV, if_pos hv], by rw [shvV, if_pos hv], by rw [bbV, if_pos hv], ⟨hG.2.1, hg1.2.1, hg2.2.1, hg3.2.1, g4⟩, ⟨hg1.1, hg2.1, hg3.1, l4⟩, hp, h4, fun k h1 h5 => ?_⟩
  obtain rfl | rfl | rfl | rfl : k = 1 ∨ k = 2 ∨ k = 3 ∨ k = 4 := by omega
  · exact m1
  · exact m2
  · exact m3
  · exact m4
set_option maxRecDepth 100000 in
set_option maxHeartbeats 16000000 in
theorem lawSizes (v : Value) (n : Nat) (w : World) (hT : TzTab w) (hb : 1 < w.heap.size) (hB : SBytes w v n) (_hn : n ≤ 140737488351232) :
    Calls Tryz.prog 4 #[v] w (Ret (.bool true) w) := by
  have HB := hide hB
  have HT := hide hT
  clear hT
  obtain ⟨A, c, rfl, -⟩ := hB
  by_cases hl : (1048576 : Int) < n
  · go_enter Tryz.func4, Tryz.ntmps4
    go_wp2
    go_ret
    exact Ret.mk rfl (Ext.refl _)
  · go_enter Tryz.func4, Tryz.ntmps4
    go_wp2_with fail
    refine (DrawConsistencySizes_any _ n _ HB.out).mono ?_
    rintro e wd ⟨vd, vc, ds, cs, rfl, hD, hC, hd1, hd4, hx1⟩
    obtain ⟨Ad, cd, rfl, -, hld⟩ := hD.form
    obtain ⟨Ac, cc, rfl, -, hlc⟩ := hC.form
    have HX1 := hide hx1
    have HD1 := hide hD
    have HC1 := hide hC
    clear hx1 hD hC
    go_upto_region 4 with fail
    obtain ⟨w0, hw0⟩ : ∃ w0, w0 = wd.alloc (.cells #[.slice Ad ds.length cd, .slice Ac cs.length cc] 26) := ⟨_, rfl⟩
    have hx0 : Ext wd w0 := by rw [hw0]; exact (Ext.refl wd).alloc _
    have k0 : w0.cell? ⟨wd.heap.size, 0, none⟩ = some (.slice Ad ds.length cd) := by rw [hw0]; go_simp
    have k1 : w0.cell? ⟨wd.heap.size, 1, none⟩ = some (.slice Ac cs.length cc) := by rw [hw0]; go_simp
    have ks_w0 : wd.heap.size < w0.heap.size := by rw [hw0]; simp
    rw [← hw0]
    clear hw0
    have HX0 := hide (HX1.out.trans hx0)
    have HD0 := hide (HD1.out.ext hx0)
    have HC0 := hide (HC1.out.ext hx0)
    have HM0 := hide (show SMod w0 (.agg #[.slice Ad ds.length cd, .slice Ac cs.length cc]) ds cs from ⟨_, _, rfl, HD1.out.ext hx0, HC1.out.ext hx0⟩)
    clear hx0 HX1 HD1 HC1
    have HX_w0 := hide (Ext.refl w0)
    obtain ⟨xs, hxs⟩ : ∃ xs, xs = csV ds cs := ⟨_, rfl⟩
    have HI64 := hide (show ∀ j, j < xs.length → I64 (at0 xs j) by rw [hxs]; exact csV_i64 ds cs)
    have HXS := hide hxs
    clear hxs
    go_wp2_with fail
    refine (ConsistencySizesI_any _ ds cs _ (HM0.out.ext HX_w0.out) (TzTab.ext HT.out hb (HX0.out.trans HX_w0.out)) (Nat.lt_of_lt_of_le hb (HX0.out.trans HX_w0.out).size)).mono ?_
    rintro e w1 hres
    rw [← HXS.out] at hres
    have hx : Ext w0 w1 := by obtain ⟨_, _, _, _, _, _, _, _, _, _, hx⟩ := hres; exact hx
    obtain ⟨A_d, c_d, he⟩ : ∃ A c, e = .returned (.slice A xs.length c) := by obtain ⟨A3, c3, _, _, _, h, _⟩ := hres; exact ⟨A3, c3, h⟩
    subst he
    have HS_d := hide (hres.ints HI64.out)
    have HX_w1 := hide (HX_w0.out.trans hx)
    have ks_w1 := Nat.lt_of_lt_of_le ks_w0 hx.size
    have k0 := (hx.cells _ _ ks_w0).trans k0
    have k1 := (hx.cells _ _ ks_w0).trans k1
    clear hres hx
    go_wp2_with fail
    refine (ConsistencySizesS_any _ ds cs _ (HM0.out.ext HX_w1.out)).mono ?_
    rintro e w2 hres
    rw [← HXS.out] at hres
    have hx : Ext w1 w2 := by obtain ⟨_, _, _, _, _, _, _, _, _, _, hx⟩ := hres; exact hx
    obtain ⟨A_e, c_e, he⟩ : ∃ A c, e = .returned (.slice A xs.length c) := by obtain ⟨A3, c3, _, _, _, h, _⟩ := hres; exact ⟨A3, c3, h⟩
    subst he
    have HS_e := hide (hres.ints HI64.out)
    have HX_w2 := hide (HX_w1.out.trans hx)
    have ks_w2 := Nat.lt_of_lt_of_le ks_w1 hx.size
    have k0 := (hx.cells _ _ ks_w1).trans k0
    have k1 := (hx.cells _ _ ks_w1).trans k1
    have HS_d := hide (HS_d.out.ext hx)
    clear hres hx
    go_wp2_with fail
    refine (equalInts_any _ _ xs xs _ HS_d.out HS_e.out).mono ?_
    rintro e w3 ⟨rfl, hx⟩
    rw [show decide (xs = xs) = true by simp]
    have HX_w3 := hide (HX_w2.out.trans hx)
    have ks_w3 := Nat.lt_of_lt_of_le ks_w2 hx.size
    have k0 := (hx.cells _ _ ks_w2).trans k0
    have k1 := (hx.cells _ _ ks_w2).trans k1
    have HS_d := hide (HS_d.out.ext hx)
    have HS_e := hide (HS_e.out.ext hx)
    clear hx
    by_cases hz : xs.length = 0
    · have hzb : ((xs.length : Int) == 0) = true := by simp [hz]
      have HZ := hide hz
      clear hz
      go_wp2_with fail
      refine (ConsistencySizesS_any _ ds cs _ (HM0.out.ext HX_w3.out)).mono ?_
      rintro e w4 hres
      rw [← HXS.out] at hres
      have hx : Ext w3 w4 := by obtain ⟨_, _, _, _, _, _, _, _, _, _, hx⟩ := hres; exact hx
      obtain ⟨A_f, c_f, he⟩ : ∃ A c, e = .returned (.slice A xs.length c) := by obtain ⟨A3, c3, _, _, _, h, _⟩ := hres; exact ⟨A3, c3, h⟩
      subst he
      have HS_f := hide (hres.ints HI64.out)
      have HX_w4 := hide (HX_w3.out.trans hx)
      have ks_w4 := Nat.lt_of_lt_of_le ks_w3 hx.size
      have k0 := (hx.cells _ _ ks_w3).trans k0
      have k1 := (hx.cells _ _ ks_w3).trans k1
      have HS_d := hide (HS_d.out.ext hx)
      have HS_e := hide (HS_e.out.ext hx)
      clear hres hx
      go_wp2_with fail
      refine (equalInts_any _ _ xs xs _ HS_d.out HS_f.out).mono ?_
      rintro e w5 ⟨rfl, hx⟩
      rw [show decide (xs = xs) = true by simp]
      have HX_w5 := hide (HX_w4.out.trans hx)
      have ks_w5 := Nat.lt_of_lt_of_le ks_w4 hx.size
      have k0 := (hx.cells _ _ ks_w4).trans k0
      have k1 := (hx.cells _ _ ks_w4).trans k1
      have HS_d := hide (HS_d.out.ext hx)
      have HS_e := hide (HS_e.out.ext hx)
      have HS_f := hide (HS_f.out.ext hx)
      clear hx
      go_wp2_with fail
      go_ret
      exact Ret.mk rfl (HX0.out.trans HX_w5.out)
    · have hzb : ((xs.length : Int) == 0) = false := by rw [beq_eq_false_iff_ne]; omega
      have hv : vMod ds cs = true := by
        cases h : vMod ds cs with
        | true => rfl
        | false => exact absurd (by rw [HXS.out, csV, h]; rfl) hz
      obtain ⟨q0, q1, q2, q3, q4, ⟨d0, d1, d2, d3, d4⟩, ⟨l1, l2, l3, l4⟩, hp, h4, hmon⟩ := sizes_all hv
      rw [← HXS.out] at q0
      rw [← q0] at hmon
      obtain ⟨r1, hr1⟩ : ∃ r, r = bndR cs ds := ⟨_, rfl⟩
      obtain ⟨r2, hr2⟩ : ∃ r, r = propL cs ds := ⟨_, rfl⟩
      obtain ⟨r3, hr3⟩ : ∃ r, r = shaveL cs ds := ⟨_, rfl⟩
      obtain ⟨r4, hr4⟩ : ∃ r, r = bbL cs ds := ⟨_, rfl⟩
      unfold cszL at q0
      rw [← hr1] at q0 q1 d1 l1
      rw [← hr2] at q0 q2 d2 l2
      rw [← hr3] at q0 q3 d3 l3
      rw [← hr4] at q0 q4 d4 l4
      have hx5 : xs.length = 5 := by rw [q0]; rfl
      have Q0 := hide q0
      have Q1 := hide q1
      have Q2 := hide q2
      have Q3 := hide q3
      have Q4 := hide q4
      have D0 := hide d0
      have D1 := hide d1
      have D2 := hide d2
      have D3 := hide d3
      have D4 := hide d4
      have L1 := hide l1
      have L2 := hide l2
      have L3 := hide l3
      have L4 := hide l4
      have HMON := hide hmon
      have hxl5 : xs.length ≤ 5 := by omega
      have HX5 := hide hx5
      clear hz hv q0 q1 q2 q3 q4 d0 d1 d2 d3 d4 l1 l2 l3 l4 hmon hx5 hr1 hr2 hr3 hr4 HXS
      go_upto_region 7 with fail
      refine wp_region_relT (n := 17) (ts := []) (sp := [RS.q [] (fun _ => .pointer (some ⟨wd.heap.size, 0, none⟩)), RS.q [0] (fun _ => .slice Ad ds.length cd), RS.q [1] (fun _ => .int .i64 (tsK ds ds.length)), RS.q [] (fun _ => .agg #[.slice Ad ds.length cd, .slice Ac cs.length cc]), RS.ow [3] r1 w3, RS.q [4] (fun _ => .int .i64 (tsK r1 r1.length)), RS.q [] (fun _ => .agg #[.slice Ad ds.length cd, .slice Ac cs.length cc]), RS.ow [6] r2 w3, RS.q [7] (fun _ => .int .i64 (tsK r2 r2.length)), RS.q [] (fun _ => .agg #[.slice Ad ds.length cd, .slice Ac cs.length cc]), RS.ow [9] r3 w3, RS.q [10] (fun _ => .int .i64 (tsK r3 r3.length)), RS.q [] (fun _ => .agg #[.slice Ad ds.length cd, .slice Ac cs.length cc]), RS.ow [12] r4 w3, RS.q [13] (fun _ => .int .i64 (tsK r4 r4.length)), ⟨[2, 5, 8, 11, 14], fun _ v w => ∃ b, v = .slice (some ⟨b, 0, none⟩) 5 5 ∧ SInts w v xs, fun _ _ _ _ ⟨b, h1, h2⟩ hx => ⟨b, h1, h2.ext hx⟩⟩, RS.v [15] (fun vs v => v = vs.getD 0 undef)])
        (fun W => Ext w3 W) (by kernel_rfl) (relOK (D := [[], [0], [1], [], [3], [4], [], [6], [7], [], [9], [10], [], [12], [13], [2, 5, 8, 11, 14], [15]]) rfl (by kernel_rfl) rfl) (by kernel_rfl) (fun W W' h hx => h.trans hx) ((Ext.refl w3).drew) ?steps ?ends
      case steps =>
        refine ⟨?_, ?_, ?_, ?_, ?_, ?_, ?_, ?_, ?_, ?_, ?_, ?_, ?_, ?_, ?_, ?_, ?_, trivial⟩
        · intro V τ W hC hf ht h0
          have s3 : τ 3 = .pointer (some ⟨wd.heap.size, 0, none⟩) := h0 3 (by kernel_rfl)
          refine Does.val (w' := W) (v := .pointer (some ⟨wd.heap.size, 0, none⟩)) ?_ ⟨Ext.refl W, rfl⟩
          clear h0 ht hf
          go_simp
        · intro V τ W hC hf ht h0
          have f0 : V 0 = .pointer (some ⟨wd.heap.size, 0, none⟩) := hf 0 (show 0 ∈ [0] by decide)
          have s28 := (ht 0 (show 0 ∈ [0] by decide) 28 rfl).trans f0
          have k0 := (hC.cells _ _ ks_w3).trans k0
          have k1 := (hC.cells _ _ ks_w3).trans k1
          refine Does.val (w' := W) (v := .slice Ad ds.length cd) ?_ ⟨Ext.refl W, rfl⟩
          clear h0 ht hf
          go_simp
        · intro V τ W hC hf ht h0
          have f1 : V 1 = .slice Ad ds.length cd := hf 1 (show 1 ∈ [1] by decide)
          have s29 := (ht 1 (show 1 ∈ [1] by decide) 29 rfl).trans f1
          have hx : Ext w3 W := hC
          clear hf ht h0
          refine Does.call (w' := W) (f := 17) (args := #[.slice Ad ds.length cd]) (by go_simp; all_goals (first | exact rfl | (apply And.intro <;> exact rfl))) ?_
          refine (total_any (.slice Ad ds.length cd) ds W (HD0.out.ext (HX_w3.out.trans hx)) D0.out (by omega)).mono ?_
          rintro e wa ⟨rfl, hxa⟩
          exact ⟨_, rfl, hxa, rfl⟩
        · intro V τ W hC hf ht h0
          have s3 : τ 3 = .pointer (some ⟨wd.heap.size, 0, none⟩) := h0 3 (by kernel_rfl)
          have k0 := (hC.cells _ _ ks_w3).trans k0
          have k1 := (hC.cells _ _ ks_w3).trans k1
          refine Does.val (w' := W) (v := .agg #[.slice Ad ds.length cd, .slice Ac cs.length cc]) ?_ ⟨Ext.refl W, rfl⟩
          clear h0 ht hf
          go_simp
        · intro V τ W hC hf ht h0
          have f3 : V 3 = .agg #[.slice Ad ds.length cd, .slice Ac cs.length cc] := hf 3 (show 3 ∈ [3] by decide)
          have s31 := (ht 3 (show 3 ∈ [3] by decide) 31 rfl).trans f3
          have hx : Ext w3 W := hC
          clear hf ht h0
          refine Does.call (w' := W) (f := 6) (args := #[.agg #[.slice Ad ds.length cd, .slice Ac cs.length cc]]) (by go_simp; all_goals (first | exact rfl | (apply And.intro <;> exact rfl))) ?_
          refine (BoundsPropagateI_any (.agg #[.slice Ad ds.length cd, .slice Ac cs.length cc]) ds cs W (HM0.out.ext (HX_w3.out.trans hx)) (TzTab.ext HT.out hb (HX0.out.trans (HX_w3.out.trans hx))) (Nat.lt_of_lt_of_le hb (HX0.out.trans (HX_w3.out.trans hx)).size)).mono ?_
          rintro e wa hres
          rw [Q1.out] at hres
          have hr2 := OwnRes.from hres hC
          obtain ⟨A3, c3, b3, m3, f3, rfl, -, -, -, -, hxa⟩ := hres
          exact ⟨_, rfl, hxa, hr2⟩
        · intro V τ W hC hf ht h0
          have f4 : OwnRes r1 w3 (.returned (V 4)) W := hf 4 (show 4 ∈ [4] by decide)
          have s32 : τ 32 = V 4 := ht 4 (show 4 ∈ [4] by decide) 32 rfl
          have hx : Ext w3 W := hC
          have F4 := hide (f4.ints (DomL.i64 D1.out))
          clear f4
          clear hf ht h0
          refine Does.call (w' := W) (f := 17) (args := #[V 4]) (by go_simp; all_goals (first | exact rfl | (apply And.intro <;> exact rfl))) ?_
          refine (total_any (V 4) r1 W F4.out D1.out (by have := L1.out; omega)).mono ?_
          rintro e wa ⟨rfl, hxa⟩
          exact ⟨_, rfl, hxa, rfl⟩
        · intro V τ W hC hf ht h0
          have s3 : τ 3 = .pointer (some ⟨wd.heap.size, 0, none⟩) := h0 3 (by kernel_rfl)
          have k0 := (hC.cells _ _ ks_w3).trans k0
          have k1 := (hC.cells _ _ ks_w3).trans k1
          refine Does.val (w' := W) (v := .agg #[.slice Ad ds.length cd, .slice Ac cs.length cc]) ?_ ⟨Ext.refl W, rfl⟩
          clear h0 ht hf
          go_simp
        · intro V τ W hC hf ht h0
          have f6 : V 6 = .agg #[.slice Ad ds.length cd, .slice Ac cs.length cc] := hf 6 (show 6 ∈ [6] by decide)
          have s34 := (ht 6 (show 6 ∈ [6] by decide) 34 rfl).trans f6
          have hx : Ext w3 W := hC
          clear hf ht h0
          refine Does.call (w' := W) (f := 13) (args := #[.agg #[.slice Ad ds.length cd, .slice Ac cs.length cc]]) (by go_simp; all_goals (first | exact rfl | (apply And.intro <;> exact rfl))) ?_
          refine (PropagateI_any (.agg #[.slice Ad ds.length cd, .slice Ac cs.length cc]) ds cs W (HM0.out.ext (HX_w3.out.trans hx))).mono ?_
          rintro e wa hres
          rw [Q2.out] at hres
          have hr2 := OwnRes.from hres hC
          obtain ⟨A3, c3, b3, m3, f3, rfl, -, -, -, -, hxa⟩ := hres
          exact ⟨_, rfl, hxa, hr2⟩
        · intro V τ W hC hf ht h0
          have f7 : OwnRes r2 w3 (.returned (V 7)) W := hf 7 (show 7 ∈ [7] by decide)
          have s35 : τ 35 = V 7 := ht 7 (show 7 ∈ [7] by decide) 35 rfl
          have hx : Ext w3 W := hC
          have F7 := hide (f7.ints (DomL.i64 D2.out))
          clear f7
          clear hf ht h0
          refine Does.call (w' := W) (f := 17) (args := #[V 7]) (by go_simp; all_goals (first | exact rfl | (apply And.intro <;> exact rfl))) ?_
          refine (total_any (V 7) r2 W F7.out D2.out (by have := L2.out; omega)).mono ?_
          rintro e wa ⟨rfl, hxa⟩
          exact ⟨_, rfl, hxa, rfl⟩
        · intro V τ W hC hf ht h0
          have s3 : τ 3 = .pointer (some ⟨wd.heap.size, 0, none⟩) := h0 3 (by kernel_rfl)
          have k0 := (hC.cells _ _ ks_w3).trans k0
          have k1 := (hC.cells _ _ ks_w3).trans k1
          refine Does.val (w' := W) (v := .agg #[.slice Ad ds.length cd, .slice Ac cs.length cc]) ?_ ⟨Ext.refl W, rfl⟩
          clear h0 ht hf
          go_simp
        · intro V τ W hC hf ht h0
          have f9 : V 9 = .agg #[.slice Ad ds.length cd, .slice Ac cs.length cc] := hf 9 (show 9 ∈ [9] by decide)
          have s37 := (ht 9 (show 9 ∈ [9] by decide) 37 rfl).trans f9
          have hx : Ext w3 W := hC
          clear hf ht h0
          refine Does.call (w' := W) (f := 18) (args := #[.agg #[.slice Ad ds.length cd, .slice Ac cs.length cc]]) (by go_simp; all_goals (first | exact rfl | (apply And.intro <;> exact rfl))) ?_
          refine (ShaveI_any (.agg #[.slice Ad ds.length cd, .slice Ac cs.length cc]) ds cs W (HM0.out.ext (HX_w3.out.trans hx))).mono ?_
          rintro e wa hres
          rw [Q3.out] at hres
          have hr2 := OwnRes.from hres hC
          obtain ⟨A3, c3, b3, m3, f3, rfl, -, -, -, -, hxa⟩ := hres
          exact ⟨_, rfl, hxa, hr2⟩
        · intro V τ W hC hf ht h0
          have f10 : OwnRes r3 w3 (.returned (V 10)) W := hf 10 (show 10 ∈ [10] by decide)
          have s38 : τ 38 = V 10 := ht 10 (show 10 ∈ [10] by decide) 38 rfl
          have hx : Ext w3 W := hC
          have F10 := hide (f10.ints (DomL.i64 D3.out))
          clear f10
          clear hf ht h0
          refine Does.call (w' := W) (f := 17) (args := #[V 10]) (by go_simp; all_goals (first | exact rfl | (apply And.intro <;> exact rfl))) ?_
          refine (total_any (V 10) r3 W F10.out D3.out (by have := L3.out; omega)).mono ?_
          rintro e wa ⟨rfl, hxa⟩
          exact ⟨_, rfl, hxa, rfl⟩
        · intro V τ W hC hf ht h0
          have s3 : τ 3 = .pointer (some ⟨wd.heap.size, 0, none⟩) := h0 3 (by kernel_rfl)
          have k0 := (hC.cells _ _ ks_w3).trans k0
          have k1 := (hC.cells _ _ ks_w3).trans k1
          refine Does.val (w' := W) (v := .agg #[.slice Ad ds.length cd, .slice Ac cs.length cc]) ?_ ⟨Ext.refl W, rfl⟩
          clear h0 ht hf
          go_simp
        · intro V τ W hC hf ht h0
          have f12 : V 12 = .agg #[.slice Ad ds.length cd, .slice Ac cs.length cc] := hf 12 (show 12 ∈ [12] by decide)
          have s40 := (ht 12 (show 12 ∈ [12] by decide) 40 rfl).trans f12
          have hx : Ext w3 W := hC
          clear hf ht h0
          refine Does.call (w' := W) (f := 19) (args := #[.agg #[.slice Ad ds.length cd, .slice Ac cs.length cc]]) (by go_simp; all_goals (first | exact rfl | (apply And.intro <;> exact rfl))) ?_
          refine (BackboneI_any (.agg #[.slice Ad ds.length cd, .slice Ac cs.length cc]) ds cs W (HM0.out.ext (HX_w3.out.trans hx))).mono ?_
          rintro e wa hres
          rw [Q4.out] at hres
          have hr2 := OwnRes.from hres hC
          obtain ⟨A3, c3, b3, m3, f3, rfl, -, -, -, -, hxa⟩ := hres
          exact ⟨_, rfl, hxa, hr2⟩
        · intro V τ W hC hf ht h0
          have f13 : OwnRes r4 w3 (.returned (V 13)) W := hf 13 (show 13 ∈ [13] by decide)
          have s41 : τ 41 = V 13 := ht 13 (show 13 ∈ [13] by decide) 41 rfl
          have hx : Ext w3 W := hC
          have F13 := hide (f13.ints (DomL.i64 D4.out))
          clear f13
          clear hf ht h0
          refine Does.call (w' := W) (f := 17) (args := #[V 13]) (by go_simp; all_goals (first | exact rfl | (apply And.intro <;> exact rfl))) ?_
          refine (total_any (V 13) r4 W F13.out D4.out (by have := L4.out; omega)).mono ?_
          rintro e wa ⟨rfl, hxa⟩
          exact ⟨_, rfl, hxa, rfl⟩
        · intro V τ W hC hf ht h0
          have f2 : V 2 = .int .i64 (tsK ds ds.length) := hf 2 (show 2 ∈ [2, 5, 8, 11, 14] by decide)
          have s30 : τ 30 = V 2 := ht 2 (show 2 ∈ [2, 5, 8, 11, 14] by decide) 30 rfl
          have f5 : V 5 = .int .i64 (tsK r1 r1.length) := hf 5 (show 5 ∈ [2, 5, 8, 11, 14] by decide)
          have s33 : τ 33 = V 5 := ht 5 (show 5 ∈ [2, 5, 8, 11, 14] by decide) 33 rfl
          have f8 : V 8 = .int .i64 (tsK r2 r2.length) := hf 8 (show 8 ∈ [2, 5, 8, 11, 14] by decide)
          have s36 : τ 36 = V 8 := ht 8 (show 8 ∈ [2, 5, 8, 11, 14] by decide) 36 rfl
          have f11 : V 11 = .int .i64 (tsK r3 r3.length) := hf 11 (show 11 ∈ [2, 5, 8, 11, 14] by decide)
          have s39 : τ 39 = V 11 := ht 11 (show 11 ∈ [2, 5, 8, 11, 14] by decide) 39 rfl
          have f14 : V 14 = .int .i64 (tsK r4 r4.length) := hf 14 (show 14 ∈ [2, 5, 8, 11, 14] by decide)
          have s42 : τ 42 = V 14 := ht 14 (show 14 ∈ [2, 5, 8, 11, 14] by decide) 42 rfl
          have hlit := SInts.lit W xs (by have := HX5.out; omega) HI64.out
          rw [HX5.out] at hlit
          rw [show xs.map vI = [tsK ds ds.length, tsK r1 r1.length, tsK r2 r2.length, tsK r3 r3.length, tsK r4 r4.length].map vI by rw [← Q0.out]] at hlit
          refine Does.val (w' := W.alloc (.cells #[.int .i64 (tsK ds ds.length), .int .i64 (tsK r1 r1.length), .int .i64 (tsK r2 r2.length), .int .i64 (tsK r3 r3.length), .int .i64 (tsK r4 r4.length)] 3)) (v := .slice (some ⟨W.heap.size, 0, none⟩) 5 5) ?_ ⟨(Ext.refl W).alloc _, W.heap.size, rfl, hlit⟩
          clear hlit h0 ht hf
          go_simp
        · intro V τ W hC hf ht h0
          have f15 : ∃ b, V 15 = .slice (some ⟨b, 0, none⟩) 5 5 ∧ SInts W (V 15) xs := hf 15 (show 15 ∈ [15] by decide)
          have s43 : τ 43 = V 15 := ht 15 (show 15 ∈ [15] by decide) 43 rfl
          obtain ⟨b, hb15, -⟩ := f15
          rw [hb15] at s43
          clear h0 ht hf
          refine Does.val (w' := W) (v := .slice (some ⟨b, 0, none⟩) 5 5) ?_ ⟨Ext.refl W, by show _ = V 15; rw [hb15]⟩
          go_simp
      case ends =>
        intro V W hC hf
        have e0 : V 0 = .pointer (some ⟨wd.heap.size, 0, none⟩) := hf 0 (by omega)
        have e1 : V 1 = .slice Ad ds.length cd := hf 1 (by omega)
        have e2 : V 2 = .int .i64 (tsK ds ds.length) := hf 2 (by omega)
        have e3 : V 3 = .agg #[.slice Ad ds.length cd, .slice Ac cs.length cc] := hf 3 (by omega)
        have e4 : OwnRes r1 w3 (.returned (V 4)) W := hf 4 (by omega)
        have e5 : V 5 = .int .i64 (tsK r1 r1.length) := hf 5 (by omega)
        have e6 : V 6 = .agg #[.slice Ad ds.length cd, .slice Ac cs.length cc] := hf 6 (by omega)
        have e7 : OwnRes r2 w3 (.returned (V 7)) W := hf 7 (by omega)
        have e8 : V 8 = .int .i64 (tsK r2 r2.length) := hf 8 (by omega)
        have e9 : V 9 = .agg #[.slice Ad ds.length cd, .slice Ac cs.length cc] := hf 9 (by omega)
        have e10 : OwnRes r3 w3 (.returned (V 10)) W := hf 10 (by omega)
        have e11 : V 11 = .int .i64 (tsK r3 r3.length) := hf 11 (by omega)
        have e12 : V 12 = .agg #[.slice Ad ds.length cd, .slice Ac cs.length cc] := hf 12 (by omega)
        have e13 : OwnRes r4 w3 (.returned (V 13)) W := hf 13 (by omega)
        have e14 : V 14 = .int .i64 (tsK r4 r4.length) := hf 14 (by omega)
        have e15 : ∃ b, V 15 = .slice (some ⟨b, 0, none⟩) 5 5 ∧ SInts W (V 15) xs := hf 15 (by omega)
        have e16 : V 16 = V 15 := hf 16 (by omega)
        clear hf
        obtain ⟨b15, e15, h15⟩ := e15
        rw [e15] at e16 h15
        obtain ⟨A4, c4, e4⟩ := e4.form
        obtain ⟨A7, c7, e7⟩ := e7.form
        obtain ⟨A10, c10, e10⟩ := e10.form
        obtain ⟨A13, c13, e13⟩ := e13.form
        rw [L1.out] at e4
        rw [L2.out] at e7
        rw [L3.out] at e10
        rw [L4.out] at e13
        have HS_w := hide h15
        have HX_w := hide (HX_w3.out.trans hC)
        have HS_d := hide (HS_d.out.ext hC)
        simp only [List.take_succ_cons, List.take_zero, putAll, Act.put, List.setIfInBounds_toArray, List.set_cons_succ, List.set_cons_zero, Nat.reduceAdd, e0, e1, e2, e3, e4, e5, e6, e7, e8, e9, e10, e11, e12, e13, e14, e15, e16]
        simp only [nths]
        clear e0 e1 e2 e3 e4 e5 e6 e7 e8 e9 e10 e11 e12 e13 e14 e15 e16 hC h15 k0 k1
        go_wp2_with fail
        go_loopw [6] (fun i wr => ∃ k : Nat, i = .int .i64 k ∧ 1 ≤ k ∧ k ≤ xs.length ∧ Ext W wr) (fun i _ => xs.length - (intOf i).toNat)
        case atStart => exact ⟨1, rfl, Nat.le_refl _, by have := HX5.out; omega, Ext.refl W⟩
        case round =>
          obtain ⟨k, rfl, hk1, hk, hx⟩ := hrel
          have HX_r := hide (HX_w.out.trans hx)
          by_cases hkl : k < xs.length
          · have hkI : (k : Int) < xs.length := by omega
            obtain ⟨b, off, hae, hbl, f1⟩ := (HS_d.out.ext hx).at_ hkl
            obtain ⟨b', off', hae', hbl', f2⟩ := (HS_d.out.ext hx).at_ (show k - 1 < xs.length by omega)
            rw [hae] at hae'
            injection hae' with hae'
            injection hae' with hb1 hb2
            subst hb1
            subst hb2
            subst hae
            have hkk : ((k - 1 : Nat) : Int) = (k : Int) - 1 := by omega
            have hw : IntKind.i64.wrap ((k : Int) - 1) = ((k - 1 : Nat) : Int) := by have := HX5.out; rw [IntWalk.i64_in _ (by omega)]; omega
            have hle := HMON.out k hk1 (by have := HX5.out; omega)
            have hgt : decide (at0 xs (k - 1) < at0 xs k) = false := by rw [decide_eq_false_iff_not]; omega
            have hk1l : ((k : Int) - 1) < xs.length := by omega
            have hk1g : (1 : Int) ≤ k := by omega
            clear hle
            go_wp2_with fail
            refine wp_region_ext (by kernel_rfl) (by kernel_rfl) ?_
            iterate 10 (apply quiet_val; (focus rfl); (focus (intro w' hw'; have hk' := hw'.cells; go_simp; all_goals exact rfl)); simp only [Act.put, List.setIfInBounds_toArray, List.set_cons_succ, List.set_cons_zero])
            refine wpQuiet_nil ?_
            intro w5 hx5
            have HXE := hide (hx.trans hx5)
            clear hx hx5 f1 f2
            go_wp2_with fail
            go_roundw
            case rel => exact ⟨k + 1, by go_num, by omega, by omega, HXE.out⟩
            case measure => simp [intOf]; omega
          · obtain rfl : k = xs.length := by omega
            have hkI : ¬ ((xs.length : Int) < xs.length) := by omega
            go_wp2_with fail
            refine (equalInts_any _ _ xs xs _ (HS_d.out.ext hx) (HS_w.out.ext hx)).mono ?_
            rintro e w9 ⟨rfl, hx9⟩
            rw [show decide (xs = xs) = true by simp]
            have HX9 := hide (HX_r.out.trans hx9)
            clear hx hx9
            go_wp2_with fail
            go_ret
            exact Ret.mk rfl (HX0.out.trans HX9.out)
end Go.Proofs.YtkjbefokgmiehaaGreatDoor
