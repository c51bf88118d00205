/- The law's walk: FnProbeFixed returns true. Printed by genlawpbf.py. -/
import Derived.Test.YtgeflejmdlipmaaQ17
import Derived.Test.YtgeflejmdlipmaaQ18
import Derived.Test.YtgeflejmdlipmaaQ15
import Derived.Test.YtgeflejmdlipmaaPrbP
import Derived.Deep.CutBlock
import Derived.Deep.DeepCutAuto
namespace Go.Proofs.Ytgeflejmdlipmaa
open Go.RowKit
attribute [local go_sem] evalOf

theorem prbV_fixed {ds : List Int} {cs : List Con} {i a : Int} (hok : prbOk ds cs i a = true) : vMod ds cs = true ∧ prpV ds cs = propL cs ds ∧ (propL cs ds).length = ds.length ∧ (∀ j, j < (propL cs ds).length → I64 (at0 (propL cs ds) j)) ∧ (∀ j, j < (propL cs ds).length → vDom (at0 (propL cs ds) j) = true) ∧
    ∀ (k : Nat) (a1 : Int), k < ds.length → domL (at0 (propL cs ds) k) = [a1] → prbV ds cs k a1 = propL cs ds := by
  obtain ⟨n, m, rfl, rfl, hn, hm, hG, h4, e⟩ := prbOk_of hok
  have hv : vMod ds cs = true := by
    simp only [prbOk, Bool.and_eq_true] at hok
    exact hok.1
  have hR := propL_R hG h4
  refine ⟨hv, by rw [prpV, if_pos hv], hR.good.1, hR.good.i64, fun j hj => ?_, fun k a1 hk hd => ?_⟩
  · obtain ⟨d0, d1⟩ := hR.good.2.1 j hj
    simp only [vDom, inR, Bool.and_eq_true, decide_eq_true_eq]
    omega
  · have hl : 0 < (domL (at0 (propL cs ds) k)).length := by rw [hd]; simp
    obtain ⟨a, ha, ha6⟩ := domL_val (at0 (propL cs ds) k) hl
    have ea : a1 = (a : Int) := by rw [← ha, hd]; rfl
    subst ea
    have hok2 : prbOk ds cs k a = true := by
      rw [prbOk, hv]
      simp only [Bool.true_and, Bool.and_eq_true, inR, decide_eq_true_eq]
      omega
    rw [prbV, if_pos hok2, Int.toNat_natCast, Int.toNat_natCast]
    exact probL_fixed hG h4 hk ha6 hd
set_option maxRecDepth 100000 in
set_option maxHeartbeats 16000000 in
theorem lawProbeFixed (v : Value) (n : Nat) (w : World) (hB : SBytes w v n) (_hn : n ≤ 140737488351232) :
    Calls Try.prog 3 #[v] w (Ret (.bool true) w) := by
  have HB := hide hB
  obtain ⟨A, c, rfl, -⟩ := hB
  by_cases hl : (1048576 : Int) < n
  · go_enter Try.func3, Try.ntmps3
    go_wp2
    go_ret
    exact Ret.mk rfl (Ext.refl _)
  · go_enter Try.func3, Try.ntmps3
    go_wp2_with fail
    refine (DrawProbe_any _ n _ HB.out).mono ?_
    rintro e w1 ⟨vd, vc, ds, cs, i, a, rfl, hD, hC, hd1, hd4, hi0, hi1, ha0, ha1, hx1⟩
    obtain ⟨Ad, cd, rfl, -, hld⟩ := hD.form
    obtain ⟨Ac, cc, rfl, -, hlc⟩ := hC.form
    have HX1 := hide hx1
    have HD1 := hide hD
    have HC1 := hide hC
    clear hx1 hD hC
    go_upto_region 4 with fail
    obtain ⟨w0, hw0⟩ : ∃ w0, w0 = w1.alloc (.cells #[.slice Ad ds.length cd, .slice Ac cs.length cc] 26) := ⟨_, rfl⟩
    have hx0 : Ext w1 w0 := by rw [hw0]; exact (Ext.refl w1).alloc _
    have k0 : w0.cell? ⟨w1.heap.size, 0, none⟩ = some (.slice Ad ds.length cd) := by rw [hw0]; go_simp
    have k1 : w0.cell? ⟨w1.heap.size, 1, none⟩ = some (.slice Ac cs.length cc) := by rw [hw0]; go_simp
    have ks : w1.heap.size < w0.heap.size := by rw [hw0]; simp
    rw [← hw0]
    clear hw0
    have HX0 := hide (HX1.out.trans hx0)
    have HM0 := hide (show SMod w0 (.agg #[.slice Ad ds.length cd, .slice Ac cs.length cc]) ds cs from ⟨_, _, rfl, HD1.out.ext hx0, HC1.out.ext hx0⟩)
    clear hx0 HX1 HD1 HC1
    have K0 := hide k0
    have K1 := hide k1
    obtain ⟨xs, hxs⟩ : ∃ xs, xs = prbV ds cs i a := ⟨_, rfl⟩
    have HI64 := hide (show ∀ j, j < xs.length → I64 (at0 xs j) by rw [hxs]; exact prbV_i64 ds cs i a)
    have HXS := hide hxs
    clear hxs
    go_wp2_with fail
    refine (ProbeI_any _ ds cs i a _ HM0.out (by unfold I64; omega)).mono ?_
    rintro e w2 hres
    rw [← HXS.out] at hres
    have hx2 : Ext w0 w2 := by obtain ⟨_, _, _, _, _, _, _, _, _, _, hx⟩ := hres; exact hx
    obtain ⟨A3, c3, he3⟩ : ∃ A3 c3, e = .returned (.slice A3 xs.length c3) := by obtain ⟨A3, c3, _, _, _, h, _⟩ := hres; exact ⟨A3, c3, h⟩
    subst he3
    have HS2 := hide (hres.ints HI64.out)
    have HX2 := hide hx2
    have ks2 := Nat.lt_of_lt_of_le ks hx2.size
    have k0 := (hx2.cells _ _ ks).trans k0
    have k1 := (hx2.cells _ _ ks).trans k1
    clear hres hx2
    go_wp2_with fail
    refine (ProbeS_any _ ds cs i a _ (HM0.out.ext HX2.out)).mono ?_
    rintro e w3 hres
    rw [← HXS.out] at hres
    have hx3 : Ext w2 w3 := by obtain ⟨_, _, _, _, _, _, _, _, _, _, hx⟩ := hres; exact hx
    obtain ⟨A4, c4, he4⟩ : ∃ A4 c4, e = .returned (.slice A4 xs.length c4) := by obtain ⟨A4, c4, _, _, _, h, _⟩ := hres; exact ⟨A4, c4, h⟩
    subst he4
    have HS3 := hide (hres.ints HI64.out)
    have HX3 := hide (HX2.out.trans hx3)
    have HS2 := hide (HS2.out.ext hx3)
    have ks3 := Nat.lt_of_lt_of_le ks2 hx3.size
    have k0 := (hx3.cells _ _ ks2).trans k0
    have k1 := (hx3.cells _ _ ks2).trans k1
    clear hres hx3
    go_wp2_with fail
    refine (equalInts_any _ _ xs xs _ HS2.out HS3.out).mono ?_
    rintro e w4 ⟨rfl, hx4⟩
    rw [show decide (xs = xs) = true by simp]
    have HX4 := hide (HX3.out.trans hx4)
    have HS4 := hide (HS2.out.ext hx4)
    have ks4 := Nat.lt_of_lt_of_le ks3 hx4.size
    have k0 := (hx4.cells _ _ ks3).trans k0
    have k1 := (hx4.cells _ _ ks3).trans k1
    clear hx4
    by_cases hz : xs.length = 0
    · have hzb : ((xs.length : Int) == 0) = true := by simp [hz]
      have HZ := hide hz
      clear hz
      go_wp2_with fail
      refine (ProbeS_any _ ds cs i a _ (HM0.out.ext HX4.out)).mono ?_
      rintro e w5 hres
      rw [← HXS.out] at hres
      have hx5 : Ext w4 w5 := by obtain ⟨_, _, _, _, _, _, _, _, _, _, hx⟩ := hres; exact hx
      obtain ⟨A5, c5, he5⟩ : ∃ A5 c5, e = .returned (.slice A5 xs.length c5) := by obtain ⟨A5, c5, _, _, _, h, _⟩ := hres; exact ⟨A5, c5, h⟩
      subst he5
      have HS5 := hide (hres.ints HI64.out)
      have HX5 := hide (HX4.out.trans hx5)
      have HE2 := hide (HS4.out.ext hx5)
      clear hres hx5
      go_wp2_with fail
      refine (equalInts_any _ _ xs xs _ HE2.out HS5.out).mono ?_
      rintro e w6 ⟨rfl, hx6⟩
      rw [show decide (xs = xs) = true by simp]
      have HX6 := hide (HX0.out.trans (HX5.out.trans hx6))
      clear hx6
      go_wp2_with fail
      go_ret
      exact Ret.mk rfl HX6.out
    · have hzb : ((xs.length : Int) == 0) = false := by rw [beq_eq_false_iff_ne]; omega
      have hok : prbOk ds cs i a = true := by
        cases h : prbOk ds cs i a with
        | true => rfl
        | false => exact absurd (by rw [HXS.out, prbV_no h]; rfl) hz
      obtain ⟨hv, hpe, hpl, hpi, hpd, hpf⟩ := prbV_fixed hok
      obtain ⟨ps, hps⟩ : ∃ ps, ps = propL cs ds := ⟨_, rfl⟩
      rw [← hps] at hpe hpl hpi hpd hpf
      have HPE0 := hide hpe
      have HPI := hide hpi
      have HPD := hide hpd
      have HPF := hide hpf
      clear hz hok hv hpe hpi hpd hpf hps HXS
      go_wp2_with fail
      refine (PropagateI_any _ ds cs _ (HM0.out.ext HX4.out)).mono ?_
      rintro e w5 hres
      rw [HPE0.out] at hres
      have hx5 : Ext w4 w5 := by obtain ⟨_, _, _, _, _, _, _, _, _, _, hx⟩ := hres; exact hx
      obtain ⟨Ap, cp, he5⟩ : ∃ Ap cp, e = .returned (.slice Ap ps.length cp) := by obtain ⟨A5, c5, _, _, _, h, _⟩ := hres; exact ⟨A5, c5, h⟩
      subst he5
      have HPS := hide (hres.ints HPI.out)
      have HX5 := hide (HX4.out.trans hx5)
      have ks5 := Nat.lt_of_lt_of_le ks4 hx5.size
      have k0 := (hx5.cells _ _ ks4).trans k0
      have k1 := (hx5.cells _ _ ks4).trans k1
      have KK0 := hide k0
      have KK1 := hide k1
      have hpl4 : ps.length ≤ 4 := by omega
      have HPL := hide hpl
      clear hres hx5 k0 k1 hpl
      obtain ⟨wb, hwb⟩ : ∃ wb, wb = w5 := ⟨w5, rfl⟩
      subst hwb
      go_wp2_with fail
      go_loopw [8] (fun i wr => ∃ k : Nat, i = .int .i64 k ∧ k ≤ ps.length ∧ Ext wb wr) (fun i _ => ps.length - (intOf i).toNat)
      case atStart => exact ⟨0, rfl, Nat.zero_le _, Ext.refl wb⟩
      case round =>
        obtain ⟨k, rfl, hk, hx⟩ := hrel
        have HXB := hide hx
        have ksr := Nat.lt_of_lt_of_le ks5 hx.size
        clear hx
        by_cases hkl : k < ps.length
        · have hkI : (k : Int) < ps.length := by omega
          obtain ⟨bp, op, hap, hbp, fp⟩ := (HPS.out.ext HXB.out).at_ hkl
          subst hap
          go_wp2_with fail
          refine (DomainValuesI_any (at0 ps k) _ (HPD.out k hkl)).mono ?_
          rintro e W5 hres
          have hx5 : Ext wr W5 := by obtain ⟨_, _, _, _, _, _, _, _, _, _, hx⟩ := hres; exact hx
          have HXW5 := hide (HXB.out.trans hx5)
          have ksW := Nat.lt_of_lt_of_le ksr hx5.size
          have hsd := domL_len (at0 ps k)
          by_cases hone : (domL (at0 ps k)).length = 1
          · obtain ⟨a1, ha1⟩ : ∃ a1, domL (at0 ps k) = [a1] := List.length_eq_one_iff.1 hone
            rw [ha1] at hres
            obtain ⟨A3, cl, bl, ml, fl0, rfl, -, -, -, ho, -⟩ := hres
            obtain ⟨rfl, hrow, hml, hf0⟩ := ho (by simp)
            have hbl : bl < W5.heap.size := hrow.lt
            have fl : W5.cell? ⟨bl, 0, none⟩ = some (.int .i64 a1) := (hrow.cell (i := 0) (by simp at hml; omega)).trans (by rw [hf0 0 (by simp)]; rfl)
            have HPE := hide (HPF.out k a1 (by have := HPL.out; omega) ha1)
            have k0 := (HXW5.out.cells _ _ ks5).trans KK0.out
            have k1 := (HXW5.out.cells _ _ ks5).trans KK1.out
            have HM5 := hide (HM0.out.ext (HX5.out.trans HXW5.out))
            have HPS5 := hide (HPS.out.ext HXW5.out)
            rw [show ([a1] : List Int).length = 1 from rfl]
            clear ha1 hone hx5 fp hsd hml hf0 hrow ho
            go_wp2_with fail
            refine wp_region_relGT (g0 := 3) (b0 := true) (n := 14) (ts := []) (sp := [RS.q [] (fun _ => .slice (some ⟨bl, 0, none⟩) 1 cl), RS.q [0] (fun _ => .int .i64 1), RS.q [1] (fun _ => .bool true), RS.q [2] (fun _ => .bool true), RS.q [3] (fun _ => .agg #[.slice Ad ds.length cd, .slice Ac cs.length cc]), RS.q [3] (fun _ => .int .i64 k), RS.q [3] (fun _ => .slice (some ⟨bl, 0, none⟩) 1 cl), RS.q [3, 6] (fun _ => .pointer (some ⟨bl, 0, none⟩)), RS.q [3, 7] (fun _ => .int .i64 a1), RS.ow [3, 4, 5, 8] ps W5, RS.q [3] (fun _ => .slice (some ⟨bp, op, none⟩) ps.length cp), RS.q [3, 9, 10] (fun _ => .bool true), RS.q [3, 11] (fun _ => .bool false), RS.q [3, 12] (fun _ => .bool false)])
              (fun W => Ext W5 W) (by kernel_rfl) (relOKG (D := [[], [0], [1], [2], [3], [3], [3], [3, 6], [3, 7], [3, 4, 5, 8], [3], [3, 9, 10], [3, 11], [3, 12]]) rfl (by kernel_rfl) rfl) (fun V w h => h) (by kernel_rfl) (fun W W' h hx => h.trans hx) ((Ext.refl W5).drew) ?steps ?ends
            case steps =>
              refine ⟨?_, ?_, ?_, ?_, ?_, ?_, ?_, ?_, ?_, ?_, ?_, ?_, ?_, ?_, trivial⟩
              · intro V τ W hC hf ht h0
                have s9 : τ 9 = .slice (some ⟨bl, 0, none⟩) 1 cl := h0 9 (by kernel_rfl)
                refine Does.val (w' := W) (v := .slice (some ⟨bl, 0, none⟩) 1 cl) ?_ ⟨Ext.refl W, rfl⟩
                clear h0 ht hf
                go_simp
              · intro V τ W hC hf ht h0
                have f0 : V 0 = .slice (some ⟨bl, 0, none⟩) 1 cl := hf 0 (show 0 ∈ [0] by decide)
                have s54 := (ht 0 (show 0 ∈ [0] by decide) 54 rfl).trans f0
                refine Does.val (w' := W) (v := .int .i64 1) ?_ ⟨Ext.refl W, rfl⟩
                clear h0 ht hf
                go_simp
              · intro V τ W hC hf ht h0
                have f1 : V 1 = .int .i64 1 := hf 1 (show 1 ∈ [1] by decide)
                have s55 := (ht 1 (show 1 ∈ [1] by decide) 55 rfl).trans f1
                refine Does.val (w' := W) (v := .bool true) ?_ ⟨Ext.refl W, rfl⟩
                clear h0 ht hf
                go_simp
              · intro V τ W hC hf ht h0
                have f2 : V 2 = .bool true := hf 2 (show 2 ∈ [2] by decide)
                have s56 := (ht 2 (show 2 ∈ [2] by decide) 56 rfl).trans f2
                refine Does.val (w' := W) (v := .bool true) ?_ ⟨Ext.refl W, rfl⟩
                clear h0 ht hf
                go_simp
              · intro V τ W hC hf ht h0
                have f3 : V 3 = .bool true := hf 3 (show 3 ∈ [3] by decide)
                have s57 := (ht 3 (show 3 ∈ [3] by decide) 57 rfl).trans f3
                have s3 : τ 3 = .pointer (some ⟨w1.heap.size, 0, none⟩) := h0 3 (by kernel_rfl)
                have k0 := (hC.cells _ _ ksW).trans k0
                have k1 := (hC.cells _ _ ksW).trans k1
                refine Does.val (w' := W) (v := .agg #[.slice Ad ds.length cd, .slice Ac cs.length cc]) ?_ ⟨Ext.refl W, rfl⟩
                clear h0 ht hf
                go_simp
              · intro V τ W hC hf ht h0
                have f3 : V 3 = .bool true := hf 3 (show 3 ∈ [3] by decide)
                have s57 := (ht 3 (show 3 ∈ [3] by decide) 57 rfl).trans f3
                have s8 : τ 8 = .int .i64 k := h0 8 (by kernel_rfl)
                refine Does.val (w' := W) (v := .int .i64 k) ?_ ⟨Ext.refl W, rfl⟩
                clear h0 ht hf
                go_simp
              · intro V τ W hC hf ht h0
                have f3 : V 3 = .bool true := hf 3 (show 3 ∈ [3] by decide)
                have s57 := (ht 3 (show 3 ∈ [3] by decide) 57 rfl).trans f3
                have s9 : τ 9 = .slice (some ⟨bl, 0, none⟩) 1 cl := h0 9 (by kernel_rfl)
                refine Does.val (w' := W) (v := .slice (some ⟨bl, 0, none⟩) 1 cl) ?_ ⟨Ext.refl W, rfl⟩
                clear h0 ht hf
                go_simp
              · intro V τ W hC hf ht h0
                have f3 : V 3 = .bool true := hf 3 (show 3 ∈ [3, 6] by decide)
                have s57 := (ht 3 (show 3 ∈ [3, 6] by decide) 57 rfl).trans f3
                have f6 : V 6 = .slice (some ⟨bl, 0, none⟩) 1 cl := hf 6 (show 6 ∈ [3, 6] by decide)
                have s60 := (ht 6 (show 6 ∈ [3, 6] by decide) 60 rfl).trans f6
                refine Does.val (w' := W) (v := .pointer (some ⟨bl, 0, none⟩)) ?_ ⟨Ext.refl W, rfl⟩
                clear h0 ht hf
                go_simp
              · intro V τ W hC hf ht h0
                have f3 : V 3 = .bool true := hf 3 (show 3 ∈ [3, 7] by decide)
                have s57 := (ht 3 (show 3 ∈ [3, 7] by decide) 57 rfl).trans f3
                have f7 : V 7 = .pointer (some ⟨bl, 0, none⟩) := hf 7 (show 7 ∈ [3, 7] by decide)
                have s61 := (ht 7 (show 7 ∈ [3, 7] by decide) 61 rfl).trans f7
                have fl := (hC.cells _ _ hbl).trans fl
                refine Does.val (w' := W) (v := .int .i64 a1) ?_ ⟨Ext.refl W, rfl⟩
                clear h0 ht hf
                go_simp
              · intro V τ W hC hf ht h0
                have f3 : V 3 = .bool true := hf 3 (show 3 ∈ [3, 4, 5, 8] by decide)
                have s57 := (ht 3 (show 3 ∈ [3, 4, 5, 8] by decide) 57 rfl).trans f3
                have f4 : V 4 = .agg #[.slice Ad ds.length cd, .slice Ac cs.length cc] := hf 4 (show 4 ∈ [3, 4, 5, 8] by decide)
                have s58 := (ht 4 (show 4 ∈ [3, 4, 5, 8] by decide) 58 rfl).trans f4
                have f5 : V 5 = .int .i64 k := hf 5 (show 5 ∈ [3, 4, 5, 8] by decide)
                have s59 := (ht 5 (show 5 ∈ [3, 4, 5, 8] by decide) 59 rfl).trans f5
                have f8 : V 8 = .int .i64 a1 := hf 8 (show 8 ∈ [3, 4, 5, 8] by decide)
                have s62 := (ht 8 (show 8 ∈ [3, 4, 5, 8] by decide) 62 rfl).trans f8
                refine Does.call (w' := W) (f := 6) (args := #[.agg #[.slice Ad ds.length cd, .slice Ac cs.length cc], .int .i64 k, .int .i64 a1]) (by go_simp; all_goals (first | exact rfl | (apply And.intro <;> exact rfl))) ?_
                refine (ProbeI_any _ ds cs k a1 _ (HM5.out.ext hC) (by unfold I64; omega)).mono ?_
                rintro e wa hres
                rw [HPE.out] at hres
                have hr2 := OwnRes.from hres hC
                obtain ⟨A3, c3, b3, m3, f3, rfl, -, -, -, -, hxa⟩ := hres
                exact ⟨_, rfl, hxa, hr2⟩
              · intro V τ W hC hf ht h0
                have f3 : V 3 = .bool true := hf 3 (show 3 ∈ [3] by decide)
                have s57 := (ht 3 (show 3 ∈ [3] by decide) 57 rfl).trans f3
                have s7 : τ 7 = .slice (some ⟨bp, op, none⟩) ps.length cp := h0 7 (by kernel_rfl)
                refine Does.val (w' := W) (v := .slice (some ⟨bp, op, none⟩) ps.length cp) ?_ ⟨Ext.refl W, rfl⟩
                clear h0 ht hf
                go_simp
              · intro V τ W hC hf ht h0
                have f3 : V 3 = .bool true := hf 3 (show 3 ∈ [3, 9, 10] by decide)
                have s57 := (ht 3 (show 3 ∈ [3, 9, 10] by decide) 57 rfl).trans f3
                have f9 : OwnRes ps W5 (.returned (V 9)) W := hf 9 (show 9 ∈ [3, 9, 10] by decide)
                have s63 : τ 63 = V 9 := ht 9 (show 9 ∈ [3, 9, 10] by decide) 63 rfl
                have f10 : V 10 = .slice (some ⟨bp, op, none⟩) ps.length cp := hf 10 (show 10 ∈ [3, 9, 10] by decide)
                have s64 := (ht 10 (show 10 ∈ [3, 9, 10] by decide) 64 rfl).trans f10
                have F9 := hide (f9.ints HPI.out)
                clear f9 hf ht h0
                refine Does.call (w' := W) (f := 7) (args := #[V 9, .slice (some ⟨bp, op, none⟩) ps.length cp]) (by go_simp; all_goals (first | exact rfl | (apply And.intro <;> exact rfl))) ?_
                have hx : Ext W5 W := hC
                have q := HPS5.out.ext hx
                refine (equalInts_any (V 9) (.slice (some ⟨bp, op, none⟩) ps.length cp) ps ps W F9.out q).mono ?_
                rintro e wa ⟨rfl, hxa⟩
                exact ⟨.bool true, by simp, hxa, rfl⟩
              · intro V τ W hC hf ht h0
                have f3 : V 3 = .bool true := hf 3 (show 3 ∈ [3, 11] by decide)
                have s57 := (ht 3 (show 3 ∈ [3, 11] by decide) 57 rfl).trans f3
                have f11 : V 11 = .bool true := hf 11 (show 11 ∈ [3, 11] by decide)
                have s65 : τ 65 = V 11 := ht 11 (show 11 ∈ [3, 11] by decide) 65 rfl
                refine Does.val (w' := W) (v := .bool false) ?_ ⟨Ext.refl W, rfl⟩
                clear h0 ht hf
                go_simp
              · intro V τ W hC hf ht h0
                have f3 : V 3 = .bool true := hf 3 (show 3 ∈ [3, 12] by decide)
                have s57 := (ht 3 (show 3 ∈ [3, 12] by decide) 57 rfl).trans f3
                have f12 : V 12 = .bool false := hf 12 (show 12 ∈ [3, 12] by decide)
                have s66 := (ht 12 (show 12 ∈ [3, 12] by decide) 66 rfl).trans f12
                refine Does.val (w' := W) (v := .bool false) ?_ ⟨Ext.refl W, rfl⟩
                clear h0 ht hf
                go_simp
            case ends =>
              intro V W hC hf
              have e0 : V 0 = .slice (some ⟨bl, 0, none⟩) 1 cl := hf 0 (by omega)
              have e1 : V 1 = .int .i64 1 := hf 1 (by omega)
              have e2 : V 2 = .bool true := hf 2 (by omega)
              have e3 : V 3 = .bool true := hf 3 (by omega)
              have e4 : V 4 = .agg #[.slice Ad ds.length cd, .slice Ac cs.length cc] := hf 4 (by omega)
              have e5 : V 5 = .int .i64 k := hf 5 (by omega)
              have e6 : V 6 = .slice (some ⟨bl, 0, none⟩) 1 cl := hf 6 (by omega)
              have e7 : V 7 = .pointer (some ⟨bl, 0, none⟩) := hf 7 (by omega)
              have e8 : V 8 = .int .i64 a1 := hf 8 (by omega)
              have e9 : OwnRes ps W5 (.returned (V 9)) W := hf 9 (by omega)
              have e10 : V 10 = .slice (some ⟨bp, op, none⟩) ps.length cp := hf 10 (by omega)
              have e11 : V 11 = .bool true := hf 11 (by omega)
              have e12 : V 12 = .bool false := hf 12 (by omega)
              have e13 : V 13 = .bool false := hf 13 (by omega)
              clear hf
              obtain ⟨A9, c9, e9⟩ := e9.form
              simp only [List.take_succ_cons, List.take_zero, putAll, Act.put, List.setIfInBounds_toArray, List.set_cons_succ, List.set_cons_zero, Nat.reduceAdd, e0, e1, e2, e3, e4, e5, e6, e7, e8, e9, e10, e11, e12, e13]
              simp only [nths]
              have HX5 := hide (HXW5.out.trans hC)
              clear e0 e1 e2 e3 e4 e5 e6 e7 e8 e9 e10 e11 e12 e13 hC
              go_wp2_with fail
              go_roundw
              case rel => exact ⟨k + 1, by go_num, by omega, HX5.out⟩
              case measure => simp [intOf]; omega
          · have hone2 : (((domL (at0 ps k)).length : Int) == 1) = false := by rw [beq_eq_false_iff_ne]; omega
            obtain ⟨A3, cl, bl, ml, fl0, rfl, -⟩ := hres
            generalize (domL (at0 ps k)).length = L at *
            clear hone hx5 fp
            go_wp2_with fail
            refine wp_region_ext (by kernel_rfl) (by kernel_rfl) ?_
            iterate 4 (apply quiet_val; (focus rfl); (focus (intro w' hw'; have hk' := hw'.cells; go_simp; all_goals exact rfl)); simp only [Act.put, List.setIfInBounds_toArray, List.set_cons_succ, List.set_cons_zero])
            iterate 9 go_big_quiet_skip
            (apply quiet_val; (focus rfl); (focus (intro w' hw'; have hk' := hw'.cells; go_simp; all_goals exact rfl)); simp only [Act.put, List.setIfInBounds_toArray, List.set_cons_succ, List.set_cons_zero])
            refine wpQuiet_nil ?_
            intro w5 hx5
            have HX6 := hide (HXW5.out.trans hx5)
            clear hx5
            go_wp2_with fail
            go_roundw
            case rel => exact ⟨k + 1, by go_num, by omega, HX6.out⟩
            case measure => simp [intOf]; omega
        · obtain rfl : k = ps.length := by omega
          have hkI : ¬ ((ps.length : Int) < ps.length) := by omega
          go_wp2_with fail
          go_ret
          exact Ret.mk rfl (HX0.out.trans (HX5.out.trans HXB.out))
end Go.Proofs.Ytgeflejmdlipmaa
