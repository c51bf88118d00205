/- The law's walk: FnPropagateClauses returns true. Printed by genlawpcf.py. -/
import Derived.Test.YtgpbmggfpbebmaaGreatQ1
import Derived.Test.YtgpbmggfpbebmaaGreatQ13
import Derived.Test.YtgpbmggfpbebmaaGreatLwX
import Derived.Test.YtgpbmggfpbebmaaGreatSoA
import Derived.Test.YtgpbmggfpbebmaaGreatRelZ
import Derived.Deep.CutBlock
import Derived.Deep.DeepCutAuto
import Derived.Test.YtgpbmggfpbebmaaGreatOpnA
import Derived.ShutString
import Derived.ChangeOld
namespace Go.Proofs.YtgpbmggfpbebmaaGreat
open Go.RowKit
attribute [local go_sem] evalOf

/-- What the law says. -/
theorem pcl_all {ds : List Int} {cs : List Con} {cls : List (List Lt)} (h : pclOk ds cs cls = true) : vMod ds cs = true ∧ GoodD cs ds.length ds ∧ 0 < ds.length ∧ ds.length ≤ 4 ∧ pclL ds cs cls = cluL cs cls ds ∧ (cluL cs cls ds).length = ds.length ∧ DomL (cluL cs cls ds) ∧
    SubD (cluL cs cls ds) (propL cs ds) ∧ DomL (propL cs ds) ∧ prpV ds cs = propL cs ds ∧ ∀ x, x ∈ solL cs ds → (∀ j, j < cls.length → chV (cl0 cls j) x = true) → ∀ v, v < ds.length → hasD (at0 (cluL cs cls ds) v) (at0 x v) = true := by
  have hv : vMod ds cs = true := by
    simp only [pclOk, Bool.and_eq_true] at h; exact h.1
  have hk : okCls cls ds.length = true := by
    simp only [pclOk, Bool.and_eq_true] at h; exact h.2
  obtain ⟨hG, h1, h4⟩ := vMod_good hv
  have hok : ∀ i, i < cls.length → okCl (cl0 cls i) ds.length = true := fun i hi => okCls_at hk hi
  have hR := propL_R hG h4
  have hg := (fixL_cas h4 (stC_ok (cs := cs) h4 hok) hG).1
  refine ⟨hv, hG, h1, h4, by rw [pclL, if_pos h], hg.1, hg.2.1, clu_prop hG h4 hok, hR.good.2.1, by rw [prpV, if_pos hv], fun x hx hall v hvl => ?_⟩
  obtain ⟨hx1, hx2⟩ := solL_in.1 hx
  have hin := clu_keeps hG h4 hok hx1 hx2 (fun i hi => by have := hall i hi; simp only [chV, Bool.and_eq_true] at this; exact this.2)
  obtain ⟨q1, q2⟩ := (tups_in _ _).1 hin
  have hvc : v < (cluL cs cls ds).length := by rw [show (cluL cs cls ds).length = ds.length from hg.1]; exact hvl
  obtain ⟨u, u6, hu, hb⟩ := q2 v hvc
  obtain ⟨d0, d1⟩ : 0 ≤ at0 (cluL cs cls ds) v ∧ at0 (cluL cs cls ds) v ≤ 63 := hg.2.1 v hvc
  rw [hu, hasD, Int.toNat_natCast, hb, show vDom (at0 (cluL cs cls ds) v) = true by simp only [vDom, inR, Bool.and_eq_true, decide_eq_true_eq]; omega, show inR (u : Int) 0 5 = true by simp only [inR, Bool.and_eq_true, decide_eq_true_eq]; omega]
  rfl
set_option maxRecDepth 100000 in
set_option maxHeartbeats 16000000 in
theorem lawPropagateClauses (v : Value) (n : Nat) (w : World) (hB : SBytes w v n) (_hn : n ≤ 140737488351232) :
    Calls Tryz.prog 3 #[v] w (Ret (.bool true) w) := by
  have HB := hide hB
  obtain ⟨A, c, rfl, -⟩ := hB
  by_cases hl : (1048576 : Int) < n
  · go_enter Tryz.func3, Tryz.ntmps3
    go_wp2
    go_ret
    exact Ret.mk rfl (Ext.refl _)
  · go_enter Tryz.func3, Tryz.ntmps3
    go_wp2_with fail
    refine (DrawPropagateClauses_any _ n _ HB.out).mono ?_
    rintro e wd ⟨vd, vc, vl, ds, cs, cls, rfl, hD, hC, hCL, hd1, hd4, hcl5, hx1⟩
    obtain ⟨Al, cl, rfl, -, hll⟩ := hCL.form
    have HCL1 := hide hCL
    obtain ⟨Ad, cd, rfl, -, hld⟩ := hD.form
    obtain ⟨Ac, cc, rfl, -, hlc⟩ := hC.form
    have HX1 := hide hx1
    have HD1 := hide hD
    have HC1 := hide hC
    clear hx1 hD hC hCL
    go_upto_region 4 with fail
    obtain ⟨w0, hw0⟩ : ∃ w0, w0 = wd.alloc (.cells #[.slice Ad ds.length cd, .slice Ac cs.length cc] 26) := ⟨_, rfl⟩
    have hx0 : Ext wd w0 := by rw [hw0]; exact (Ext.refl wd).alloc _
    have k0 : w0.cell? ⟨wd.heap.size, 0, none⟩ = some (.slice Ad ds.length cd) := by rw [hw0]; go_simp
    have k1 : w0.cell? ⟨wd.heap.size, 1, none⟩ = some (.slice Ac cs.length cc) := by rw [hw0]; go_simp
    have ks_w0 : wd.heap.size < w0.heap.size := by rw [hw0]; simp
    rw [← hw0]
    clear hw0
    have HX0 := hide (HX1.out.trans hx0)
    have HD0 := hide (HD1.out.ext hx0)
    have HC0 := hide (HC1.out.ext hx0)
    have HM0 := hide (show SMod w0 (.agg #[.slice Ad ds.length cd, .slice Ac cs.length cc]) ds cs from ⟨_, _, rfl, HD1.out.ext hx0, HC1.out.ext hx0⟩)
    have HL0 := hide (HCL1.out.ext hx0)
    clear hx0 HX1 HD1 HC1 HCL1
    have HX_w0 := hide (Ext.refl w0)
    obtain ⟨xs, hxs⟩ : ∃ xs, xs = pclL ds cs cls := ⟨_, rfl⟩
    have HI64 := hide (show ∀ j, j < xs.length → I64 (at0 xs j) by rw [hxs]; exact pcl_i64 ds cs cls)
    have HXS := hide hxs
    clear hxs
    go_wp2_with fail
    refine (PropagateClausesI_any _ _ ds cs cls _ (HM0.out.ext HX_w0.out) (HL0.out.ext HX_w0.out) (fun i _ => fits_all (con0 cs i))).mono ?_
    rintro e w1 hres
    rw [← HXS.out] at hres
    have hx : Ext w0 w1 := by obtain ⟨_, _, _, _, _, _, _, _, _, _, hx⟩ := hres; exact hx
    obtain ⟨A_d, c_d, he⟩ : ∃ A c, e = .returned (.slice A xs.length c) := by obtain ⟨A3, c3, _, _, _, h, _⟩ := hres; exact ⟨A3, c3, h⟩
    subst he
    have HS_d := hide (hres.ints HI64.out)
    have HX_w1 := hide (HX_w0.out.trans hx)
    have ks_w1 := Nat.lt_of_lt_of_le ks_w0 hx.size
    have k0 := (hx.cells _ _ ks_w0).trans k0
    have k1 := (hx.cells _ _ ks_w0).trans k1
    clear hres hx
    go_wp2_with fail
    refine (PropagateClausesS_any _ _ ds cs cls _ (HM0.out.ext HX_w1.out) (HL0.out.ext HX_w1.out)).mono ?_
    rintro e w2 hres
    rw [← HXS.out] at hres
    have hx : Ext w1 w2 := by obtain ⟨_, _, _, _, _, _, _, _, _, _, hx⟩ := hres; exact hx
    obtain ⟨A_e, c_e, he⟩ : ∃ A c, e = .returned (.slice A xs.length c) := by obtain ⟨A3, c3, _, _, _, h, _⟩ := hres; exact ⟨A3, c3, h⟩
    subst he
    have HS_e := hide (hres.ints HI64.out)
    have HX_w2 := hide (HX_w1.out.trans hx)
    have ks_w2 := Nat.lt_of_lt_of_le ks_w1 hx.size
    have k0 := (hx.cells _ _ ks_w1).trans k0
    have k1 := (hx.cells _ _ ks_w1).trans k1
    have HS_d := hide (HS_d.out.ext hx)
    clear hres hx
    go_wp2_with fail
    refine (equalInts_any _ _ xs xs _ HS_d.out HS_e.out).mono ?_
    rintro e w3 ⟨rfl, hx⟩
    rw [show decide (xs = xs) = true by simp]
    have HX_w3 := hide (HX_w2.out.trans hx)
    have ks_w3 := Nat.lt_of_lt_of_le ks_w2 hx.size
    have k0 := (hx.cells _ _ ks_w2).trans k0
    have k1 := (hx.cells _ _ ks_w2).trans k1
    have HS_d := hide (HS_d.out.ext hx)
    have HS_e := hide (HS_e.out.ext hx)
    clear hx
    by_cases hz : xs.length = 0
    · have hzb : ((xs.length : Int) == 0) = true := by simp [hz]
      have HZ := hide hz
      clear hz
      go_wp2_with fail
      refine (PropagateClausesS_any _ _ ds cs cls _ (HM0.out.ext HX_w3.out) (HL0.out.ext HX_w3.out)).mono ?_
      rintro e w4 hres
      rw [← HXS.out] at hres
      have hx : Ext w3 w4 := by obtain ⟨_, _, _, _, _, _, _, _, _, _, hx⟩ := hres; exact hx
      obtain ⟨A_f, c_f, he⟩ : ∃ A c, e = .returned (.slice A xs.length c) := by obtain ⟨A3, c3, _, _, _, h, _⟩ := hres; exact ⟨A3, c3, h⟩
      subst he
      have HS_f := hide (hres.ints HI64.out)
      have HX_w4 := hide (HX_w3.out.trans hx)
      have ks_w4 := Nat.lt_of_lt_of_le ks_w3 hx.size
      have k0 := (hx.cells _ _ ks_w3).trans k0
      have k1 := (hx.cells _ _ ks_w3).trans k1
      have HS_d := hide (HS_d.out.ext hx)
      have HS_e := hide (HS_e.out.ext hx)
      clear hres hx
      go_wp2_with fail
      refine (equalInts_any _ _ xs xs _ HS_d.out HS_f.out).mono ?_
      rintro e w5 ⟨rfl, hx⟩
      rw [show decide (xs = xs) = true by simp]
      have HX_w5 := hide (HX_w4.out.trans hx)
      have ks_w5 := Nat.lt_of_lt_of_le ks_w4 hx.size
      have k0 := (hx.cells _ _ ks_w4).trans k0
      have k1 := (hx.cells _ _ ks_w4).trans k1
      have HS_d := hide (HS_d.out.ext hx)
      have HS_e := hide (HS_e.out.ext hx)
      have HS_f := hide (HS_f.out.ext hx)
      clear hx
      go_wp2_with fail
      go_ret
      exact Ret.mk rfl (HX0.out.trans HX_w5.out)
    · have hzb : ((xs.length : Int) == 0) = false := by rw [beq_eq_false_iff_ne]; omega
      have hok : pclOk ds cs cls = true := by
        cases h : pclOk ds cs cls with
        | true => rfl
        | false => exact absurd (by rw [HXS.out, pclL, h]; rfl) hz
      obtain ⟨hv, hG, h1, h4, he, hlc, hdc, hsub, hdp, hpe, hsol⟩ := pcl_all hok
      rw [← he, ← HXS.out] at hlc hdc hsub hsol
      obtain ⟨ps, hps⟩ : ∃ ps, ps = propL cs ds := ⟨_, rfl⟩
      rw [← hps] at hsub hdp hpe
      have HSUB := hide hsub
      have HDX := hide hdc
      have HDP := hide hdp
      have HPE := hide hpe
      have HPI := hide (show ∀ j, j < ps.length → I64 (at0 ps j) from fun j hj => by have := hdp j hj; unfold I64; omega)
      obtain ⟨R, hR⟩ : ∃ R, R = (solL cs ds).take 20 := ⟨_, rfl⟩
      have hmem : ∀ i, i < R.length → rw0 R i ∈ solL cs ds := fun i hi => by
        have : rw0 R i ∈ R := by rw [rw0, getD_lt _ _ hi]; exact List.getElem_mem hi
        rw [hR] at this ⊢
        exact List.mem_of_mem_take this
      have HSOL := hide (fun i (hi : i < R.length) => hsol (rw0 R i) (hmem i hi))
      have HRL := hide (fun i (hi : i < R.length) => solL_mem (hmem i hi))
      have hRL : R.length ≤ 20 := by rw [hR, List.length_take]; omega
      have HSO := hide (show soAll ds cs = R by rw [soAll, if_pos hv, hR])
      obtain ⟨z, hz0⟩ : ∃ z, z = (at0 xs 0 == 0) := ⟨_, rfl⟩
      have HZ := hide hz0.symm
      have HZZ := hide (show (z == z) = true by simp)
      have HIM := hide (show (pclOk ds cs cls && (at0 (cluL cs cls ds) 0 == 0)) = z by rw [hok, ← he, ← HXS.out, hz0]; rfl)
      have hxl : 0 < xs.length := by omega
      have hxl4 : xs.length ≤ 4 := by omega
      have HLC := hide hlc
      clear hz hok hv hG he hdc hsub hdp hpe hsol hps hmem hR hz0 hlc HXS
      go_wp2_with fail
      refine (SolveAllI_any _ _ ds cs _ (HD0.out.ext HX_w3.out) (HC0.out.ext HX_w3.out)).mono ?_
      rw [HSO.out]
      rintro e w21 ⟨AR, cR, rfl, hR7, hx⟩
      have HR := hide hR7
      clear hR7
      have HX_w21 := hide (HX_w3.out.trans hx)
      have ks_w21 := Nat.lt_of_lt_of_le ks_w3 hx.size
      have k0 := (hx.cells _ _ ks_w3).trans k0
      have k1 := (hx.cells _ _ ks_w3).trans k1
      have HS_d := hide (HS_d.out.ext hx)
      have HS_e := hide (HS_e.out.ext hx)
      clear hx
      have K0 := hide k0
      have K1 := hide k1
      clear k0 k1
      obtain ⟨wb, hwb⟩ : ∃ wb, wb = w21 := ⟨w21, rfl⟩
      subst hwb
      go_wp2_with fail
      go_loopw [7] (fun i wr => ∃ j : Nat, i = .int .i64 j ∧ j ≤ R.length ∧ Ext wb wr) (fun i _ => R.length - (intOf i).toNat)
      case atStart => exact ⟨0, rfl, Nat.zero_le _, Ext.refl _⟩
      case round =>
        obtain ⟨j, rfl, hj, hx⟩ := hrel
        obtain ⟨W5, hW5⟩ : ∃ W5, W5 = wr := ⟨wr, rfl⟩
        subst hW5
        have HX := hide hx
        have hsz := hx.size
        clear hx
        by_cases hjn : j < R.length
        · have hjI : (j : Int) < R.length := by omega
          obtain ⟨x, hx0⟩ : ∃ x, x = rw0 R j := ⟨_, rfl⟩
          have HSX := hide (HSOL.out j hjn)
          have HLX := hide (HRL.out j hjn)
          rw [← hx0] at HSX HLX
          obtain ⟨b, off, A', c', rfl, hbl, hcell, hrow⟩ := (HR.out.ext HX.out).at_ hjn
          rw [← hx0] at hcell hrow
          have HROW := hide hrow
          have HCELL := hide hcell
          have HXLEN := hide HLX.out.1
          clear hrow hcell hx0
          go_wp2_with fail
          go_loopw [8, 9] (fun l i wr => ∃ (k : Nat) (y : Bool), l = .bool y ∧ i = .int .i64 k ∧ k ≤ cls.length ∧ (y = true → ∀ q, q < k → chV (cl0 cls q) x = true) ∧ Ext W5 wr) (fun _ i _ => cls.length - (intOf i).toNat)
          case atStart => exact ⟨0, true, rfl, rfl, Nat.zero_le _, fun _ q hq => absurd hq (by omega), Ext.refl _⟩
          case round =>
            obtain ⟨k, y, rfl, rfl, hk, hall, hx⟩ := hrel
            obtain ⟨W6, hW6⟩ : ∃ W6, W6 = wr := ⟨wr, rfl⟩
            subst hW6
            have HX6 := hide hx
            have HALL := hide hall
            have hsz6 := hx.size
            clear hx hall
            by_cases hkn : k < cls.length
            · have hkI : (k : Int) < cls.length := by omega
              obtain ⟨bl, ol, Ak, ck, ha, hbll, fl, hrl⟩ := (HL0.out.ext (HX_w21.out.trans (HX.out.trans HX6.out))).at_ hkn
              have HRL6 := hide hrl
              have fr := (HX6.out.cells _ _ hbl).trans HCELL.out
              have hbl6 := Nat.lt_of_lt_of_le hbl hsz6
              subst ha
              clear hrl
              cases y with
              | true =>
                obtain ⟨cb, hcb⟩ : ∃ cb, cb = chV (cl0 cls k) x := ⟨_, rfl⟩
                have HCB := hide hcb
                have HCH := hide (fun (W : World) (hW : Ext W6 W) => (show Calls Tryz.prog 9 #[.slice Ak (cl0 cls k).length ck, .slice A' x.length c'] W (Ret (.bool cb) W) by rw [hcb]; exact ClauseHoldsI_any _ _ x (cl0 cls k) W (HROW.out.ext (HX6.out.trans hW)) (HRL6.out.ext hW)))
                clear hcb
                go_wp2_with fail
                refine wp_region_ext (by kernel_rfl) (by kernel_rfl) ?_
                iterate 2 (apply quiet_val; (focus rfl); (focus (intro w' hw'; have hk' := hw'.cells; go_simp; all_goals exact rfl)); simp only [Act.put, List.setIfInBounds_toArray, List.set_cons_succ, List.set_cons_zero])
                iterate 8 (go_big_quiet_want; apply quietK_val; (focus (intro w' hw'; have hk' := hw'.cells; go_simp; all_goals exact rfl)); simp only [Act.put, List.setIfInBounds_toArray, List.set_cons_succ, List.set_cons_zero]; go_big_quiet_on)
                go_big_quiet_want; apply quietK_call; (focus (intro w' hw'; go_simp; all_goals (first | exact rfl | (apply And.intro <;> exact rfl))))
                · exact fun w' hw' => Ret.quiet (HCH.out w' hw') hw'
                (simp only [Act.put, List.setIfInBounds_toArray, List.set_cons_succ, List.set_cons_zero]; go_big_quiet_on)
                iterate 2 (apply quiet_val; (focus rfl); (focus (intro w' hw'; have hk' := hw'.cells; go_simp; all_goals exact rfl)); simp only [Act.put, List.setIfInBounds_toArray, List.set_cons_succ, List.set_cons_zero])
                refine wpQuiet_nil ?_
                intro w7 hx7
                have HX7 := hide (HX6.out.trans hx7)
                clear hx7 fl fr
                go_wp2_with fail
                go_roundw
                case rel => exact ⟨k + 1, cb, rfl, by go_num, by omega, fun hy q hq => by
                  by_cases hqk : q < k
                  · exact HALL.out (by simp) q hqk
                  · obtain rfl : q = k := by omega
                    rw [← HCB.out]; exact hy, HX7.out⟩
                case measure => simp [intOf]; omega
              | false =>
                clear fl fr
                go_wp2_with fail
                refine wp_region_ext (by kernel_rfl) (by kernel_rfl) ?_
                iterate 2 (apply quiet_val; (focus rfl); (focus (intro w' hw'; have hk' := hw'.cells; go_simp; all_goals exact rfl)); simp only [Act.put, List.setIfInBounds_toArray, List.set_cons_succ, List.set_cons_zero])
                iterate 9 go_big_quiet_skip
                iterate 2 (apply quiet_val; (focus rfl); (focus (intro w' hw'; have hk' := hw'.cells; go_simp; all_goals exact rfl)); simp only [Act.put, List.setIfInBounds_toArray, List.set_cons_succ, List.set_cons_zero])
                refine wpQuiet_nil ?_
                intro w7 hx7
                have HX7 := hide (HX6.out.trans hx7)
                clear hx7
                go_wp2_with fail
                go_roundw
                case rel => exact ⟨k + 1, false, rfl, by go_num, by omega, fun hy => (by cases hy), HX7.out⟩
                case measure => simp [intOf]; omega
            · obtain rfl : k = cls.length := by omega
              have hkI : ¬ ((cls.length : Int) < cls.length) := by omega
              cases y with
              | false =>
                go_wp2_with fail
                go_loopw [10] (fun i wr => i = .int .i64 0 ∧ Ext W5 wr) (fun _ _ => 0)
                case atStart => exact ⟨rfl, HX6.out⟩
                case round =>
                  obtain ⟨rfl, hx⟩ := hrel
                  have HX7 := hide (HX.out.trans hx)
                  clear hx
                  go_wp2_with fail
                  go_roundw
                  case rel => exact ⟨j + 1, by go_num, by omega, HX7.out⟩
                  case measure => simp [intOf]; omega
              | true =>
                have HHAS := hide (HSX.out (HALL.out rfl))
                clear HALL HSX
                go_wp2_with fail
                go_loopw [10] (fun i wr => ∃ u : Nat, i = .int .i64 u ∧ u ≤ xs.length ∧ Ext W5 wr) (fun i _ => xs.length - (intOf i).toNat)
                case atStart => exact ⟨0, rfl, Nat.zero_le _, HX6.out⟩
                case round =>
                  obtain ⟨u, rfl, hu, hx⟩ := hrel
                  have HX7 := hide hx
                  have hsz7 := hx.size
                  clear hx
                  by_cases hun : u < xs.length
                  · have huI : (u : Int) < xs.length := by omega
                    have hux : u < x.length := by rw [HXLEN.out, ← HLC.out]; exact hun
                    have huxI : (u : Int) < x.length := by omega
                    have hhas := HHAS.out u (by rw [← HLC.out]; exact hun)
                    obtain ⟨bd, od, hd1, hdl, fd⟩ := (HS_d.out.ext (HX.out.trans HX7.out)).at_ hun
                    obtain ⟨bv, ov, hv1, hvl, fv⟩ := (HROW.out.ext HX7.out).at_ hux
                    have fr := (HX7.out.cells _ _ hbl).trans HCELL.out
                    have hbl7 := Nat.lt_of_lt_of_le hbl hsz7
                    obtain ⟨a1, ha1⟩ : ∃ a1, a1 = at0 xs u := ⟨_, rfl⟩
                    obtain ⟨a2, ha2⟩ : ∃ a2, a2 = at0 x u := ⟨_, rfl⟩
                    rw [← ha1, ← ha2] at hhas
                    rw [← ha1] at fd
                    rw [← ha2] at fv
                    have HHS := hide hhas
                    subst hd1 hv1
                    clear ha1 ha2 hhas
                    go_wp2_with fail
                    refine wp_region_ext (by kernel_rfl) (by kernel_rfl) ?_
                    iterate 11 (apply quiet_val; (focus rfl); (focus (intro w' hw'; have hk' := hw'.cells; go_simp; all_goals exact rfl)); simp only [Act.put, List.setIfInBounds_toArray, List.set_cons_succ, List.set_cons_zero])
                    apply quiet_call; (focus rfl); (focus (intro w' hw'; go_simp; all_goals (first | exact rfl | (apply And.intro <;> exact rfl))))
                    · exact fun w' hw' => same_quiet ((DomainHasI_any a1 a2 w').mono fun e w2 h => by rw [HHS.out] at h; exact h) hw'
                    (simp only [Act.put, List.setIfInBounds_toArray, List.set_cons_succ, List.set_cons_zero])
                    (apply quiet_val; (focus rfl); (focus (intro w' hw'; have hk' := hw'.cells; go_simp; all_goals exact rfl)); simp only [Act.put, List.setIfInBounds_toArray, List.set_cons_succ, List.set_cons_zero])
                    refine wpQuiet_nil ?_
                    intro w8 hx8
                    have HX8 := hide (HX7.out.trans hx8)
                    clear hx8 fd fv fr
                    go_wp2_with fail
                    go_roundw
                    case rel => exact ⟨u + 1, by go_num, by omega, HX8.out⟩
                    case measure => simp [intOf]; omega
                  · obtain rfl : u = xs.length := by omega
                    have huI : ¬ ((xs.length : Int) < xs.length) := by omega
                    have HX8 := hide (HX.out.trans HX7.out)
                    go_wp2_with fail
                    go_roundw
                    case rel => exact ⟨j + 1, by go_num, by omega, HX8.out⟩
                    case measure => simp [intOf]; omega
        · obtain rfl : j = R.length := by omega
          have hjI : ¬ ((R.length : Int) < R.length) := by omega
          have ksW := Nat.lt_of_lt_of_le ks_w21 hsz
          have k0 := (HX.out.cells _ _ ks_w21).trans K0.out
          have k1 := (HX.out.cells _ _ ks_w21).trans K1.out
          have HX5 := hide (HX0.out.trans (HX_w21.out.trans HX.out))
          have HXS5 := hide (HS_d.out.ext HX.out)
          have HD5 := hide (HD0.out.ext (HX_w21.out.trans HX.out))
          have HC5 := hide (HC0.out.ext (HX_w21.out.trans HX.out))
          have HL5 := hide (HL0.out.ext (HX_w21.out.trans HX.out))
          have HM5 := hide (HM0.out.ext (HX_w21.out.trans HX.out))
          obtain ⟨bx, ox, had, hbx, fx⟩ := HXS5.out.at_ hxl
          rw [Nat.add_zero] at fx
          obtain ⟨cx, hcx⟩ : ∃ cx, cx = c_d := ⟨_, rfl⟩
          rw [← hcx] at HXS5 ⊢
          clear hcx
          subst had
          go_wp2_with fail
          refine wp_region_relGT (g0 := 4) (b0 := true) (n := 15) (ts := [15]) (sp := [RS.q [] (fun _ => .slice (some ⟨bx, ox, none⟩) xs.length cx), RS.q [] (fun _ => .agg #[.slice Ad ds.length cd, .slice Ac cs.length cc]), RS.ow [1] ps W5, RS.q [0, 2] (fun _ => .bool true), RS.q [3] (fun _ => .bool true), RS.q [4] (fun _ => .slice (some ⟨bx, ox, none⟩) xs.length cx), RS.q [4, 5] (fun _ => .pointer (some ⟨bx, ox, none⟩)), RS.q [4, 6] (fun _ => .int .i64 (at0 xs 0)), RS.q [4, 7] (fun _ => .bool z), RS.q [4] (fun _ => .agg #[.slice Ad ds.length cd, .slice Ac cs.length cc]), RS.q [4] (fun _ => .slice Al cls.length cl), RS.nl9 [4], RS.q [4, 9, 10, 11] (fun _ => .bool z), RS.q [4, 8, 12] (fun _ => .bool true), RS.q [4, 13] (fun _ => .bool true)])
            (fun W => Ext W5 W) (by kernel_rfl) (relOKG (D := [[], [], [1], [0, 2], [3], [4], [4, 5], [4, 6], [4, 7], [4], [4], [4], [4, 9, 10, 11], [4, 8, 12], [4, 13]]) rfl (by kernel_rfl) rfl) (fun V w h => h) (by kernel_rfl) (fun W W' h hx => h.trans hx) ((Ext.refl W5).drew) ?steps ?ends
          case steps =>
            refine ⟨?_, ?_, ?_, ?_, ?_, ?_, ?_, ?_, ?_, ?_, ?_, ?_, ?_, ?_, ?_, trivial⟩
            · intro V τ W hC hf ht h0
              have s5 : τ 5 = .slice (some ⟨bx, ox, none⟩) xs.length cx := h0 5 (by kernel_rfl)
              refine Does.val (w' := W) (v := .slice (some ⟨bx, ox, none⟩) xs.length cx) ?_ ⟨Ext.refl W, rfl⟩
              clear h0 ht hf
              go_simp
            · intro V τ W hC hf ht h0
              have s3 : τ 3 = .pointer (some ⟨wd.heap.size, 0, none⟩) := h0 3 (by kernel_rfl)
              have k0 := (hC.cells _ _ ksW).trans k0
              have k1 := (hC.cells _ _ ksW).trans k1
              refine Does.val (w' := W) (v := .agg #[.slice Ad ds.length cd, .slice Ac cs.length cc]) ?_ ⟨Ext.refl W, rfl⟩
              clear h0 ht hf
              go_simp
            · intro V τ W hC hf ht h0
              have f1 : V 1 = .agg #[.slice Ad ds.length cd, .slice Ac cs.length cc] := hf 1 (show 1 ∈ [1] by decide)
              have s87 := (ht 1 (show 1 ∈ [1] by decide) 87 rfl).trans f1
              refine Does.call (w' := W) (f := 12) (args := #[.agg #[.slice Ad ds.length cd, .slice Ac cs.length cc]]) (by go_simp; all_goals (first | exact rfl | (apply And.intro <;> exact rfl))) ?_
              refine (PropagateI_any _ ds cs _ (HM5.out.ext hC)).mono ?_
              rintro e wa hres
              rw [HPE.out] at hres
              have hr2 := OwnRes.from hres hC
              obtain ⟨A3, c3, b3, m3, f3, rfl, -, -, -, -, hxa⟩ := hres
              exact ⟨_, rfl, hxa, hr2⟩
            · intro V τ W hC hf ht h0
              have f0 : V 0 = .slice (some ⟨bx, ox, none⟩) xs.length cx := hf 0 (show 0 ∈ [0, 2] by decide)
              have s86 := (ht 0 (show 0 ∈ [0, 2] by decide) 86 rfl).trans f0
              have f2 : OwnRes ps W5 (.returned (V 2)) W := hf 2 (show 2 ∈ [0, 2] by decide)
              have s88 : τ 88 = V 2 := ht 2 (show 2 ∈ [0, 2] by decide) 88 rfl
              have F9 := hide (f2.ints HPI.out)
              clear f2 hf ht h0
              refine Does.call (w' := W) (f := 11) (args := #[.slice (some ⟨bx, ox, none⟩) xs.length cx, V 2]) (by go_simp; all_goals (first | exact rfl | (apply And.intro <;> exact rfl))) ?_
              have hx : Ext W5 W := hC
              have q := HXS5.out.ext hx
              refine (contained_any (.slice (some ⟨bx, ox, none⟩) xs.length cx) (V 2) xs ps W q F9.out HSUB.out HDX.out HDP.out).mono ?_
              rintro e wa ⟨rfl, hxa⟩
              exact ⟨.bool true, by simp, hxa, rfl⟩
            · intro V τ W hC hf ht h0
              have f3 : V 3 = .bool true := hf 3 (show 3 ∈ [3] by decide)
              have s89 : τ 89 = V 3 := ht 3 (show 3 ∈ [3] by decide) 89 rfl
              refine Does.val (w' := W) (v := .bool true) ?_ ⟨Ext.refl W, rfl⟩
              clear h0 ht hf
              go_simp
            · intro V τ W hC hf ht h0
              have f4 : V 4 = .bool true := hf 4 (show 4 ∈ [4] by decide)
              have s90 := (ht 4 (show 4 ∈ [4] by decide) 90 rfl).trans f4
              have s5 : τ 5 = .slice (some ⟨bx, ox, none⟩) xs.length cx := h0 5 (by kernel_rfl)
              refine Does.val (w' := W) (v := .slice (some ⟨bx, ox, none⟩) xs.length cx) ?_ ⟨Ext.refl W, rfl⟩
              clear h0 ht hf
              go_simp
            · intro V τ W hC hf ht h0
              have f4 : V 4 = .bool true := hf 4 (show 4 ∈ [4, 5] by decide)
              have s90 := (ht 4 (show 4 ∈ [4, 5] by decide) 90 rfl).trans f4
              have f5 : V 5 = .slice (some ⟨bx, ox, none⟩) xs.length cx := hf 5 (show 5 ∈ [4, 5] by decide)
              have s91 := (ht 5 (show 5 ∈ [4, 5] by decide) 91 rfl).trans f5
              have hxI : (0 : Int) < xs.length := by omega
              refine Does.val (w' := W) (v := .pointer (some ⟨bx, ox, none⟩)) ?_ ⟨Ext.refl W, rfl⟩
              clear h0 ht hf
              go_simp
            · intro V τ W hC hf ht h0
              have f4 : V 4 = .bool true := hf 4 (show 4 ∈ [4, 6] by decide)
              have s90 := (ht 4 (show 4 ∈ [4, 6] by decide) 90 rfl).trans f4
              have f6 : V 6 = .pointer (some ⟨bx, ox, none⟩) := hf 6 (show 6 ∈ [4, 6] by decide)
              have s92 := (ht 6 (show 6 ∈ [4, 6] by decide) 92 rfl).trans f6
              have fx := (hC.cells _ _ hbx).trans fx
              refine Does.val (w' := W) (v := .int .i64 (at0 xs 0)) ?_ ⟨Ext.refl W, rfl⟩
              clear h0 ht hf
              go_simp
            · intro V τ W hC hf ht h0
              have f4 : V 4 = .bool true := hf 4 (show 4 ∈ [4, 7] by decide)
              have s90 := (ht 4 (show 4 ∈ [4, 7] by decide) 90 rfl).trans f4
              have f7 : V 7 = .int .i64 (at0 xs 0) := hf 7 (show 7 ∈ [4, 7] by decide)
              have s93 := (ht 7 (show 7 ∈ [4, 7] by decide) 93 rfl).trans f7
              have hz := HZ.out
              refine Does.val (w' := W) (v := .bool z) ?_ ⟨Ext.refl W, rfl⟩
              clear h0 ht hf
              go_simp
            · intro V τ W hC hf ht h0
              have f4 : V 4 = .bool true := hf 4 (show 4 ∈ [4] by decide)
              have s90 := (ht 4 (show 4 ∈ [4] by decide) 90 rfl).trans f4
              have s3 : τ 3 = .pointer (some ⟨wd.heap.size, 0, none⟩) := h0 3 (by kernel_rfl)
              have k0 := (hC.cells _ _ ksW).trans k0
              have k1 := (hC.cells _ _ ksW).trans k1
              refine Does.val (w' := W) (v := .agg #[.slice Ad ds.length cd, .slice Ac cs.length cc]) ?_ ⟨Ext.refl W, rfl⟩
              clear h0 ht hf
              go_simp
            · intro V τ W hC hf ht h0
              have f4 : V 4 = .bool true := hf 4 (show 4 ∈ [4] by decide)
              have s90 := (ht 4 (show 4 ∈ [4] by decide) 90 rfl).trans f4
              have s4 : τ 4 = .slice Al cls.length cl := h0 4 (by kernel_rfl)
              refine Does.val (w' := W) (v := .slice Al cls.length cl) ?_ ⟨Ext.refl W, rfl⟩
              clear h0 ht hf
              go_simp
            · intro V τ W hC hf ht h0
              have f4 : V 4 = .bool true := hf 4 (show 4 ∈ [4] by decide)
              have s90 := (ht 4 (show 4 ∈ [4] by decide) 90 rfl).trans f4
              refine Does.val (w' := W.alloc (.cells #[] 56)) (v := .slice (some ⟨W.heap.size, 0, none⟩) 0 0) ?_ ⟨(Ext.refl W).alloc _, _, _, rfl, by omega⟩
              clear h0 ht hf
              go_simp
            · intro V τ W hC hf ht h0
              have f4 : V 4 = .bool true := hf 4 (show 4 ∈ [4, 9, 10, 11] by decide)
              have s90 := (ht 4 (show 4 ∈ [4, 9, 10, 11] by decide) 90 rfl).trans f4
              have f9 : V 9 = .agg #[.slice Ad ds.length cd, .slice Ac cs.length cc] := hf 9 (show 9 ∈ [4, 9, 10, 11] by decide)
              have s95 := (ht 9 (show 9 ∈ [4, 9, 10, 11] by decide) 95 rfl).trans f9
              have f10 : V 10 = .slice Al cls.length cl := hf 10 (show 10 ∈ [4, 9, 10, 11] by decide)
              have s96 := (ht 10 (show 10 ∈ [4, 9, 10, 11] by decide) 96 rfl).trans f10
              have f11 : ∃ A c, V 11 = .slice A 0 c ∧ c ≤ 1000000 := hf 11 (show 11 ∈ [4, 9, 10, 11] by decide)
              have s97 : τ 97 = V 11 := ht 11 (show 11 ∈ [4, 9, 10, 11] by decide) 97 rfl
              obtain ⟨A11, c11, f11, -⟩ := f11
              rw [f11] at s97
              clear f11 hf ht h0
              refine Does.call (w' := W) (f := 13) (args := #[.agg #[.slice Ad ds.length cd, .slice Ac cs.length cc], .slice Al cls.length cl, .slice A11 0 c11]) (by go_simp; all_goals (first | exact rfl | (apply And.intro <;> exact rfl))) ?_
              have hx : Ext W5 W := hC
              refine (IsImpliedN_any _ _ _ A11 c11 ds cs cls W (HD5.out.ext hx) (HC5.out.ext hx) (HL5.out.ext hx)).mono ?_
              rw [HIM.out]
              rintro e wa ⟨rfl, hxa⟩
              exact ⟨_, rfl, hxa, rfl⟩
            · intro V τ W hC hf ht h0
              have f4 : V 4 = .bool true := hf 4 (show 4 ∈ [4, 8, 12] by decide)
              have s90 := (ht 4 (show 4 ∈ [4, 8, 12] by decide) 90 rfl).trans f4
              have f8 : V 8 = .bool z := hf 8 (show 8 ∈ [4, 8, 12] by decide)
              have s94 := (ht 8 (show 8 ∈ [4, 8, 12] by decide) 94 rfl).trans f8
              have f12 : V 12 = .bool z := hf 12 (show 12 ∈ [4, 8, 12] by decide)
              have s98 : τ 98 = V 12 := ht 12 (show 12 ∈ [4, 8, 12] by decide) 98 rfl
              have hzz := HZZ.out
              refine Does.val (w' := W) (v := .bool true) ?_ ⟨Ext.refl W, rfl⟩
              clear h0 ht hf
              go_simp
            · intro V τ W hC hf ht h0
              have f4 : V 4 = .bool true := hf 4 (show 4 ∈ [4, 13] by decide)
              have s90 := (ht 4 (show 4 ∈ [4, 13] by decide) 90 rfl).trans f4
              have f13 : V 13 = .bool true := hf 13 (show 13 ∈ [4, 13] by decide)
              have s99 := (ht 13 (show 13 ∈ [4, 13] by decide) 99 rfl).trans f13
              refine Does.val (w' := W) (v := .bool true) ?_ ⟨Ext.refl W, rfl⟩
              clear h0 ht hf
              go_simp
          case ends =>
            intro V W hC hf
            have e0 : V 0 = .slice (some ⟨bx, ox, none⟩) xs.length cx := hf 0 (by omega)
            have e1 : V 1 = .agg #[.slice Ad ds.length cd, .slice Ac cs.length cc] := hf 1 (by omega)
            have e2 : OwnRes ps W5 (.returned (V 2)) W := hf 2 (by omega)
            have e3 : V 3 = .bool true := hf 3 (by omega)
            have e4 : V 4 = .bool true := hf 4 (by omega)
            have e5 : V 5 = .slice (some ⟨bx, ox, none⟩) xs.length cx := hf 5 (by omega)
            have e6 : V 6 = .pointer (some ⟨bx, ox, none⟩) := hf 6 (by omega)
            have e7 : V 7 = .int .i64 (at0 xs 0) := hf 7 (by omega)
            have e8 : V 8 = .bool z := hf 8 (by omega)
            have e9 : V 9 = .agg #[.slice Ad ds.length cd, .slice Ac cs.length cc] := hf 9 (by omega)
            have e10 : V 10 = .slice Al cls.length cl := hf 10 (by omega)
            have e11 : ∃ A c, V 11 = .slice A 0 c ∧ c ≤ 1000000 := hf 11 (by omega)
            have e12 : V 12 = .bool z := hf 12 (by omega)
            have e13 : V 13 = .bool true := hf 13 (by omega)
            have e14 : V 14 = .bool true := hf 14 (by omega)
            clear hf
            obtain ⟨A2, c2, e2⟩ := e2.form
            obtain ⟨A11, c11, e11, -⟩ := e11
            simp only [List.take_succ_cons, List.take_zero, putAll, Act.put, List.setIfInBounds_toArray, List.set_cons_succ, List.set_cons_zero, Nat.reduceAdd, e0, e1, e2, e3, e4, e5, e6, e7, e8, e9, e10, e11, e12, e13, e14]
            simp only [nths, nth1]
            have HXF := hide (HX5.out.trans hC)
            clear e0 e1 e2 e3 e4 e5 e6 e7 e8 e9 e10 e11 e12 e13 e14 hC
            go_wp2_with fail
            go_ret
            exact Ret.mk rfl HXF.out
end Go.Proofs.YtgpbmggfpbebmaaGreat
/- FnPropagateClauses returns true for all bytes. No condition. -/
namespace Go.Proofs.YtgpbmggfpbebmaaGreat
open Go.ChangeShapes Go.WideShapes Go.ChangeAt Go.RowKit

theorem Tryz.ownFnPropagateClauses : ownKnob Tryz.prog.godebug = none := by kernel_rfl
theorem Tryz.laidOutFnPropagateClauses : laidOutB Tryz.prog = true := by kernel_rfl

set_option maxRecDepth 100000 in
theorem fnPropagateClauses_lifted (os : Os) (started : os.Started) (H : Type) (enc : TypeId × Value → H) :
    ReturnsInHanded {} Tryz.checked os 3 .any (Rows.fnPropagateClausesSpec.pre6 enc Tryz.prog Tryz.f3 Rows.fnPropagateClausesRow.domain false) (Rows.fnPropagateClausesSpec.post enc Tryz.prog Tryz.f3 false true false false) := by
  refine returnsInHanded_of_change_sized (C := Tryz.checked) Tryz.ownFnPropagateClauses started (by kernel_rfl) Tryz.func3
    (ChangeSpec.witness6 (enc := enc) (C := Tryz.checked) false ⟨#[], #[.slice none 0 0], []⟩ 8 (by kernel_rfl) (by kernel_rfl) (by kernel_rfl) (by kernel_rfl)) ?_
  intro W base args ds gs before hval0 hW hcnd hsz0 _
  have hval : ∀ (j : Nat) t v, Tryz.f3.params[j]? = some t → args[j]? = some v → Value.okWide Tryz.prog W .any base t v := hval0
  have hsz : (DataW.weightsEach Tryz.prog (Tryz.f3.params.toList ++ Rows.fnPropagateClausesSpec.plain.varTypes Tryz.prog) (ds ++ gs)).all (· ≤ reachBytes) = true := hsz0
  have hW' := hW
  obtain ⟨p, q, hA0, hV, rfl, hfz, hnd⟩ := hW
  have hA : DataW.TrodAll enc Tryz.prog W 0 (fun _ => true) true Tryz.f3.params.toList args.toList ds p := hA0
  rw [Tryz.params3] at hA hval hsz
  obtain ⟨v0, vs0, d0, ds0, p0, q0, hargs, rfl, rfl, h0, r0⟩ := trodAll_cons hA
  obtain ⟨rfl, rfl, rfl⟩ := trodAll_nil r0
  obtain rfl : args = #[v0] := by cases args; simp_all
  obtain ⟨rfl, rfl⟩ := trodVars_none hV
  have k0 := h0
  have lt0 : ∀ x ∈ p0, x.block < W.heap.size := by obtain ⟨m, hm⟩ := k0; exact DataW.trod_lt m _ _ _ hm
  obtain ⟨x0, hB0, hn0⟩ := bytes_of_trod Tryz.underlying22 Tryz.underlying5 (by kernel_rfl) (by kernel_rfl) (hval 0 22 v0 rfl rfl) h0
    (fun elems spare hd => sized_slice hsz (j := 0) (t := 22) (e := 5) rfl (by simp [hd]) Tryz.underlying22)
  clear hA0 hval0 hsz0
  refine (lawPropagateClauses v0 x0 W hB0 hn0).mono fun e W' ⟨he, bel⟩ => ?_
  subst he
  exact ⟨_, rfl, _, _, _, [], _, [], hW', trodAll_mk1 (shut_bool Tryz.underlying4 _), (trodAll_cons_mk (Below.trod Tryz.laidOutFnPropagateClauses (by kernel_rfl) (of_decide_eq_true (by kernel_rfl)) k0 bel lt0) trodAll_mk0), rfl, Below.frame bel _, fun h => by cases h⟩

theorem fnPropagateClauses_holds : Rows.FnPropagateClausesSaid :=
  OpenClaim.holds_of_wide 3 Tryz.f3 rfl rfl rfl rfl rfl rfl rfl ⟨rfl, rfl, rfl, rfl, rfl⟩ rfl rfl rfl rfl rfl (by kernel_rfl) Tryz.func3 (by kernel_rfl)
    (of_decide_eq_true (by kernel_rfl)) (by unfold Func.isWrapper; first | (rw [if_pos (by decide +kernel)]; kernel_rfl) | (rw [if_neg (by decide +kernel)]; exact ⟨rfl, rfl⟩))
    (fun os started H enc _ => fnPropagateClauses_lifted os started H enc)
#print axioms fnPropagateClauses_holds
end Go.Proofs.YtgpbmggfpbebmaaGreat
