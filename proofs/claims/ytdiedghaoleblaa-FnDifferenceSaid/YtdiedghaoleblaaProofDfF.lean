/- The walk of the law FnDifference: it returns true. Printed by genlawsd.py. -/
import Derived.Test.YtdiedghaoleblaaAutL
import Derived.Test.YtdiedghaoleblaaAuI
import Derived.Test.YtdiedghaoleblaaMcA
import Derived.Test.YtdiedghaoleblaaQ20
import Derived.Test.YtdiedghaoleblaaQ21
import Derived.Test.YtdiedghaoleblaaOpnA
import Derived.ShutString
import Derived.ChangeOld
namespace Go.Proofs.Ytdiedghaoleblaa
open Go.RowKit
attribute [local go_sem] evalOf

set_option maxRecDepth 100000 in
set_option maxHeartbeats 16000000 in
theorem lawDifference (v : Value) (n : Nat) (w : World) (hB : SBytes w v n) (_hn : n ≤ 140737488351232) :
    Calls Try.prog 7 #[v] w (Ret (.bool true) w) := by
  have HB := hide hB
  obtain ⟨A, c, rfl, -⟩ := hB
  by_cases hl : (1048576 : Int) < n
  · go_enter Try.func7, Try.ntmps7
    go_wp2
    go_ret
    exact Ret.mk rfl (Ext.refl _)
  · go_enter Try.func7, Try.ntmps7
    go_wp2_with fail
    refine (DrawShortestDifference_any _ n _ HB.out).mono ?_
    rintro e wd ⟨vna, vfa, a, vnb, vfb, b, rfl, hN, hF, hN2, hF2, hx⟩
    obtain ⟨Ana, cna, rfl, -⟩ := hN.form
    obtain ⟨Afa, cfa, rfl, -⟩ := hF.form
    obtain ⟨Anb, cnb, rfl, -⟩ := hN2.form
    obtain ⟨Afb, cfb, rfl, -⟩ := hF2.form
    have hNa := hide hN
    have hFa := hide hF
    have hNb := hide hN2
    have hFb := hide hF2
    have HXd := hide hx
    clear hN hF hN2 hF2 hx
    go_upto_region 4 with fail
    obtain ⟨u0, hu0⟩ : ∃ x, x = (wd.alloc (.cells #[.slice Ana a.next.length cna, .slice Afa a.final.length cfa] 26)).alloc (.cells #[.slice Anb b.next.length cnb, .slice Afb b.final.length cfb] 26) := ⟨_, rfl⟩
    obtain ⟨qa, hqa⟩ : ∃ x, x = wd.heap.size := ⟨_, rfl⟩
    obtain ⟨qb, hqb⟩ : ∃ x, x = wd.heap.size + 1 := ⟨_, rfl⟩
    have hxa : Ext wd u0 := by rw [hu0]; exact ((Ext.refl wd).alloc _).alloc _
    have hc0 : u0.cell? ⟨qa, 0, none⟩ = some (.slice Ana a.next.length cna) := by rw [hu0, hqa]; go_simp
    have hc1 : u0.cell? ⟨qa, 1, none⟩ = some (.slice Afa a.final.length cfa) := by rw [hu0, hqa]; go_simp
    have hcs : qa < u0.heap.size := by rw [hu0, hqa]; simp; omega
    have hd0 : u0.cell? ⟨qb, 0, none⟩ = some (.slice Anb b.next.length cnb) := by rw [hu0, hqb]; go_simp
    have hd1 : u0.cell? ⟨qb, 1, none⟩ = some (.slice Afb b.final.length cfb) := by rw [hu0, hqb]; go_simp
    have hds : qb < u0.heap.size := by rw [hu0, hqb]; simp
    rw [← hu0]
    try rw [← hqb]
    rw [← hqa]
    clear hu0 hqa hqb
    have HB_a := hide (fun (W : World) (hW : Ext u0 W) => (show W.cell? ⟨qa, 0, none⟩ = some (.slice Ana a.next.length cna) ∧ W.cell? ⟨qa, 1, none⟩ = some (.slice Afa a.final.length cfa) ∧ qa < W.heap.size from ⟨(hW.cells _ _ hcs).trans hc0, (hW.cells _ _ hcs).trans hc1, Nat.lt_of_lt_of_le hcs hW.size⟩))
    have HN_a := hide (hNa.out.ext hxa)
    have HF_a := hide (hFa.out.ext hxa)
    have HT := hide (HXd.out.trans hxa)
    have HB_b := hide (fun (W : World) (hW : Ext u0 W) => (show W.cell? ⟨qb, 0, none⟩ = some (.slice Anb b.next.length cnb) ∧ W.cell? ⟨qb, 1, none⟩ = some (.slice Afb b.final.length cfb) ∧ qb < W.heap.size from ⟨(hW.cells _ _ hds).trans hd0, (hW.cells _ _ hds).trans hd1, Nat.lt_of_lt_of_le hds hW.size⟩))
    have HN_b := hide (hNb.out.ext hxa)
    have HF_b := hide (hFb.out.ext hxa)
    clear hxa hc0 hc1 hcs hd0 hd1 hds hNa hFa hNb hFb
    obtain ⟨ma0, ma1, mas⟩ := HB_a.out u0 (Ext.refl u0)
    obtain ⟨mb0, mb1, mbs⟩ := HB_b.out u0 (Ext.refl u0)
    go_wp2_with fail
    refine (ShortestDifferenceI_any _ _ _ _ a b _ (HN_a.out.ext (Ext.refl u0)) (HF_a.out.ext (Ext.refl u0)) (HN_b.out.ext (Ext.refl u0)) (HF_b.out.ext (Ext.refl u0))).mono ?_
    rintro e v1 ⟨ok, ws, vwp, hX, rfl, hR⟩
    obtain ⟨Ap, cp, rfl⟩ := hR.formS
    have hS := hR.intsS (SdX.i64 hX)
    have hx := hR.extS
    clear hR
    clear ma0 ma1 mas mb0 mb1 mbs
    have HV := hide hX
    have HWp := hide hS
    have HB_a := hide (fun (W : World) (hW : Ext v1 W) => HB_a.out W (((Ext.refl u0).trans hx).trans hW))
    have HN_a := hide (HN_a.out.ext ((Ext.refl u0).trans hx))
    have HF_a := hide (HF_a.out.ext ((Ext.refl u0).trans hx))
    have HB_b := hide (fun (W : World) (hW : Ext v1 W) => HB_b.out W (((Ext.refl u0).trans hx).trans hW))
    have HN_b := hide (HN_b.out.ext ((Ext.refl u0).trans hx))
    have HF_b := hide (HF_b.out.ext ((Ext.refl u0).trans hx))
    have HT := hide (HT.out.trans ((Ext.refl u0).trans hx))
    clear hx hS
    obtain ⟨ma0, ma1, mas⟩ := HB_a.out v1 (Ext.refl v1)
    obtain ⟨mb0, mb1, mbs⟩ := HB_b.out v1 (Ext.refl v1)
    go_wp2_with fail
    refine (ShortestDifferenceS_any _ _ _ _ a b _ (HN_a.out.ext (Ext.refl v1)) (HF_a.out.ext (Ext.refl v1)) (HN_b.out.ext (Ext.refl v1)) (HF_b.out.ext (Ext.refl v1))).mono ?_
    rintro e v2 ⟨ok2, ws2, Aq, cq, hX, rfl, hS, hx⟩
    clear ma0 ma1 mas mb0 mb1 mbs
    obtain ⟨e1, e2⟩ := HV.out.uniq hX
    subst e1 e2
    have HWq := hide hS
    have HB_a := hide (fun (W : World) (hW : Ext v2 W) => HB_a.out W (((Ext.refl v1).trans hx).trans hW))
    have HN_a := hide (HN_a.out.ext ((Ext.refl v1).trans hx))
    have HF_a := hide (HF_a.out.ext ((Ext.refl v1).trans hx))
    have HB_b := hide (fun (W : World) (hW : Ext v2 W) => HB_b.out W (((Ext.refl v1).trans hx).trans hW))
    have HN_b := hide (HN_b.out.ext ((Ext.refl v1).trans hx))
    have HF_b := hide (HF_b.out.ext ((Ext.refl v1).trans hx))
    have HWp := hide (HWp.out.ext ((Ext.refl v1).trans hx))
    have HT := hide (HT.out.trans ((Ext.refl v1).trans hx))
    clear hx hS
    have hbb : (ok != ok) = false := by simp
    have hbe : (ok == ok) = true := by simp
    go_wp2_with fail
    refine (equalIntsA_any _ _ ws ws _ (HWp.out.ext (Ext.refl v2)) (HWq.out.ext (Ext.refl v2))).mono ?_
    rw [decide_eq_true (rfl : ws = ws)]
    rintro e v3 ⟨rfl, hx⟩
    have HXv3 := hide ((Ext.refl v2).trans hx)
    clear hx
    cases ok with
    | false =>
      go_wp2_with fail
      refine (equalIntsA_any _ _ ws ws _ (HWp.out.ext HXv3.out) (HWq.out.ext HXv3.out)).mono ?_
      rw [decide_eq_true (rfl : ws = ws)]
      rintro e v44 ⟨rfl, hx⟩
      have HXv44 := hide (HXv3.out.trans hx)
      clear hx
      go_wp2_with fail
      go_ret
      exact Ret.mk rfl (HT.out.trans HXv44.out)
    | true =>
      obtain ⟨hva, hvb, hwl, hcw, hsw, hacc⟩ := df_all HV.out
      have HCW := hide hcw
      have HSW := hide hsw
      have HAC := hide hacc
      clear hva hvb hcw hsw hacc
      go_wp2_with fail
      go_loopw [9] (fun i wr => ∃ j : Nat, i = .int .i64 j ∧ j ≤ 9 ∧ j ≤ ws.length ∧ Ext v2 wr) (fun i _ => 9 - (intOf i).toNat)
      case atStart => exact ⟨0, rfl, Nat.zero_le _, Nat.zero_le _, HXv3.out⟩
      case round =>
        obtain ⟨j, rfl, hj, hjl, hx⟩ := hrel
        have HXR := hide hx
        clear hx
        by_cases hjw : j < ws.length
        · have hjwI : (j : Int) < ws.length := by omega
          by_cases hj8 : j ≤ 8
          · have hjI : (j : Int) ≤ 8 := by omega
            obtain ⟨ca, hca⟩ : ∃ x, x = cwB a j := ⟨_, rfl⟩
            have hcb : ca = cwB b j := by rw [hca]; exact HCW.out j hjw hj8
            have hne : (ca != ca) = false := by simp
            have HCA := hide hca
            have HCB := hide hcb
            clear hca hcb
            obtain ⟨ma0, ma1, mas⟩ := HB_a.out wr HXR.out
            obtain ⟨mb0, mb1, mbs⟩ := HB_b.out wr HXR.out
            go_wp2_with fail
            refine wp_region_ext (by kernel_rfl) (by kernel_rfl) ?_
            iterate 2 (apply quiet_val; (focus rfl); (focus (intro w' hw'; have hk' := hw'.cells; go_simp; all_goals exact rfl)); simp only [Act.put, List.setIfInBounds_toArray, List.set_cons_succ, List.set_cons_zero])
            apply quiet_call; (focus rfl); (focus (intro w' hw'; go_simp; all_goals (first | exact rfl | (apply And.intro <;> exact rfl))))
            · exact fun w' hw' => Ret.quiet ((show Calls Try.prog 20 _ w' (Ret (.int .i64 ca) w') by rw [HCA.out]; exact CountWordsI_any _ _ a j w' (HN_a.out.ext (HXR.out.trans hw')) (HF_a.out.ext (HXR.out.trans hw')) (by unfold I64; omega))) hw'
            (simp only [Act.put, List.setIfInBounds_toArray, List.set_cons_succ, List.set_cons_zero])
            iterate 2 (apply quiet_val; (focus rfl); (focus (intro w' hw'; have hk' := hw'.cells; go_simp; all_goals exact rfl)); simp only [Act.put, List.setIfInBounds_toArray, List.set_cons_succ, List.set_cons_zero])
            apply quiet_call; (focus rfl); (focus (intro w' hw'; go_simp; all_goals (first | exact rfl | (apply And.intro <;> exact rfl))))
            · exact fun w' hw' => Ret.quiet ((show Calls Try.prog 20 _ w' (Ret (.int .i64 ca) w') by rw [HCB.out]; exact CountWordsI_any _ _ b j w' (HN_b.out.ext (HXR.out.trans hw')) (HF_b.out.ext (HXR.out.trans hw')) (by unfold I64; omega))) hw'
            (simp only [Act.put, List.setIfInBounds_toArray, List.set_cons_succ, List.set_cons_zero])
            (apply quiet_val; (focus rfl); (focus (intro w' hw'; have hk' := hw'.cells; go_simp; all_goals exact rfl)); simp only [Act.put, List.setIfInBounds_toArray, List.set_cons_succ, List.set_cons_zero])
            refine wpQuiet_nil ?_
            intro y1 hy1
            have HXY := hide (HXR.out.trans hy1)
            clear hy1 ma0 ma1 mas mb0 mb1 mbs
            go_wp2_with fail
            go_roundw
            case rel => exact ⟨j + 1, by go_num, by omega, by omega, HXY.out⟩
            case measure => simp [intOf]; omega
          · have hjI : ¬ (j : Int) ≤ 8 := by omega
            obtain ⟨ma0, ma1, mas⟩ := HB_a.out wr HXR.out
            obtain ⟨mb0, mb1, mbs⟩ := HB_b.out wr HXR.out
            go_wp2_with fail
            refine (ShortestDifferenceI_any _ _ _ _ b a _ (HN_b.out.ext HXR.out) (HF_b.out.ext HXR.out) (HN_a.out.ext HXR.out) (HF_a.out.ext HXR.out)).mono ?_
            rintro e v61 ⟨okb, wsb, vwr, hX, rfl, hR⟩
            obtain ⟨Ar, cr, rfl⟩ := hR.formS
            have hS := hR.intsS (SdX.i64 hX)
            have hx := hR.extS
            clear hR
            clear ma0 ma1 mas mb0 mb1 mbs
            obtain ⟨e1, e2⟩ := HSW.out _ _ hX
            have e2 := e2.symm
            subst e1 e2
            have HWr := hide hS
            have HB_a := hide (fun (W : World) (hW : Ext v61 W) => HB_a.out W ((HXR.out.trans hx).trans hW))
            have HN_a := hide (HN_a.out.ext (HXR.out.trans hx))
            have HF_a := hide (HF_a.out.ext (HXR.out.trans hx))
            have HB_b := hide (fun (W : World) (hW : Ext v61 W) => HB_b.out W ((HXR.out.trans hx).trans hW))
            have HN_b := hide (HN_b.out.ext (HXR.out.trans hx))
            have HF_b := hide (HF_b.out.ext (HXR.out.trans hx))
            have HWp := hide (HWp.out.ext (HXR.out.trans hx))
            have HWq := hide (HWq.out.ext (HXR.out.trans hx))
            have HT := hide (HT.out.trans (HXR.out.trans hx))
            clear hx hS
            obtain ⟨ma0, ma1, mas⟩ := HB_a.out v61 (Ext.refl v61)
            obtain ⟨mb0, mb1, mbs⟩ := HB_b.out v61 (Ext.refl v61)
            have HCE := hide (fun (W : World) (hW : Ext v61 W) => (show Calls Try.prog 27 #[.slice Ar ws.length cr, .slice Ap ws.length cp] W (Ret (.bool true) W) by rw [← decide_eq_true (rfl : ws = ws)]; exact equalIntsA_any _ _ ws ws W (HWr.out.ext hW) (HWp.out.ext hW)))
            clear HV HCW HSW HAC
            have hlg : (8 : Int) < ws.length := by omega
            go_wp2_with fail
            refine wp_region_ext (by kernel_rfl) (by kernel_rfl) ?_
            iterate 2 (apply quiet_val; (focus rfl); (focus (intro w' hw'; have hk' := hw'.cells; go_simp; all_goals exact rfl)); simp only [Act.put, List.setIfInBounds_toArray, List.set_cons_succ, List.set_cons_zero])
            iterate 2 (go_big_quiet_want; apply quietK_val; (focus (intro w' hw'; have hk' := hw'.cells; go_simp; all_goals exact rfl)); simp only [Act.put, List.setIfInBounds_toArray, List.set_cons_succ, List.set_cons_zero]; go_big_quiet_on)
            go_big_quiet_want; apply quietK_call; (focus (intro w' hw'; go_simp; all_goals (first | exact rfl | (apply And.intro <;> exact rfl))))
            · exact fun w' hw' => Ret.quiet (HCE.out w' hw') hw'
            (simp only [Act.put, List.setIfInBounds_toArray, List.set_cons_succ, List.set_cons_zero]; go_big_quiet_on)
            iterate 2 (apply quiet_val; (focus rfl); (focus (intro w' hw'; have hk' := hw'.cells; go_simp; all_goals exact rfl)); simp only [Act.put, List.setIfInBounds_toArray, List.set_cons_succ, List.set_cons_zero])
            iterate 4 (go_big_quiet_want; apply quietK_val; (focus (intro w' hw'; have hk' := hw'.cells; go_simp; all_goals exact rfl)); simp only [Act.put, List.setIfInBounds_toArray, List.set_cons_succ, List.set_cons_zero]; go_big_quiet_on)
            iterate 7 go_big_quiet_skip
            (go_big_quiet_want; apply quietK_val; (focus (intro w' hw'; have hk' := hw'.cells; go_simp; all_goals exact rfl)); simp only [Act.put, List.setIfInBounds_toArray, List.set_cons_succ, List.set_cons_zero]; go_big_quiet_on)
            iterate 2 (apply quiet_val; (focus rfl); (focus (intro w' hw'; have hk' := hw'.cells; go_simp; all_goals exact rfl)); simp only [Act.put, List.setIfInBounds_toArray, List.set_cons_succ, List.set_cons_zero])
            refine wpQuiet_nil ?_
            intro y1 hy1
            have HXY := hide (HT.out.trans hy1)
            clear hy1
            go_wp2_with fail
            go_ret
            exact Ret.mk rfl HXY.out
        · have hjwI : ¬ (j : Int) < ws.length := by omega
          by_cases hw8 : 8 < ws.length
          · obtain ⟨ma0, ma1, mas⟩ := HB_a.out wr HXR.out
            obtain ⟨mb0, mb1, mbs⟩ := HB_b.out wr HXR.out
            go_wp2_with fail
            refine (ShortestDifferenceI_any _ _ _ _ b a _ (HN_b.out.ext HXR.out) (HF_b.out.ext HXR.out) (HN_a.out.ext HXR.out) (HF_a.out.ext HXR.out)).mono ?_
            rintro e v101 ⟨okb, wsb, vwr, hX, rfl, hR⟩
            obtain ⟨Ar, cr, rfl⟩ := hR.formS
            have hS := hR.intsS (SdX.i64 hX)
            have hx := hR.extS
            clear hR
            clear ma0 ma1 mas mb0 mb1 mbs
            obtain ⟨e1, e2⟩ := HSW.out _ _ hX
            have e2 := e2.symm
            subst e1 e2
            have HWr := hide hS
            have HB_a := hide (fun (W : World) (hW : Ext v101 W) => HB_a.out W ((HXR.out.trans hx).trans hW))
            have HN_a := hide (HN_a.out.ext (HXR.out.trans hx))
            have HF_a := hide (HF_a.out.ext (HXR.out.trans hx))
            have HB_b := hide (fun (W : World) (hW : Ext v101 W) => HB_b.out W ((HXR.out.trans hx).trans hW))
            have HN_b := hide (HN_b.out.ext (HXR.out.trans hx))
            have HF_b := hide (HF_b.out.ext (HXR.out.trans hx))
            have HWp := hide (HWp.out.ext (HXR.out.trans hx))
            have HWq := hide (HWq.out.ext (HXR.out.trans hx))
            have HT := hide (HT.out.trans (HXR.out.trans hx))
            clear hx hS
            obtain ⟨ma0, ma1, mas⟩ := HB_a.out v101 (Ext.refl v101)
            obtain ⟨mb0, mb1, mbs⟩ := HB_b.out v101 (Ext.refl v101)
            have HCE := hide (fun (W : World) (hW : Ext v101 W) => (show Calls Try.prog 27 #[.slice Ar ws.length cr, .slice Ap ws.length cp] W (Ret (.bool true) W) by rw [← decide_eq_true (rfl : ws = ws)]; exact equalIntsA_any _ _ ws ws W (HWr.out.ext hW) (HWp.out.ext hW)))
            clear HV HCW HSW HAC
            have hlg : (8 : Int) < ws.length := by omega
            go_wp2_with fail
            refine wp_region_ext (by kernel_rfl) (by kernel_rfl) ?_
            iterate 2 (apply quiet_val; (focus rfl); (focus (intro w' hw'; have hk' := hw'.cells; go_simp; all_goals exact rfl)); simp only [Act.put, List.setIfInBounds_toArray, List.set_cons_succ, List.set_cons_zero])
            iterate 2 (go_big_quiet_want; apply quietK_val; (focus (intro w' hw'; have hk' := hw'.cells; go_simp; all_goals exact rfl)); simp only [Act.put, List.setIfInBounds_toArray, List.set_cons_succ, List.set_cons_zero]; go_big_quiet_on)
            go_big_quiet_want; apply quietK_call; (focus (intro w' hw'; go_simp; all_goals (first | exact rfl | (apply And.intro <;> exact rfl))))
            · exact fun w' hw' => Ret.quiet (HCE.out w' hw') hw'
            (simp only [Act.put, List.setIfInBounds_toArray, List.set_cons_succ, List.set_cons_zero]; go_big_quiet_on)
            iterate 2 (apply quiet_val; (focus rfl); (focus (intro w' hw'; have hk' := hw'.cells; go_simp; all_goals exact rfl)); simp only [Act.put, List.setIfInBounds_toArray, List.set_cons_succ, List.set_cons_zero])
            iterate 4 (go_big_quiet_want; apply quietK_val; (focus (intro w' hw'; have hk' := hw'.cells; go_simp; all_goals exact rfl)); simp only [Act.put, List.setIfInBounds_toArray, List.set_cons_succ, List.set_cons_zero]; go_big_quiet_on)
            iterate 7 go_big_quiet_skip
            (go_big_quiet_want; apply quietK_val; (focus (intro w' hw'; have hk' := hw'.cells; go_simp; all_goals exact rfl)); simp only [Act.put, List.setIfInBounds_toArray, List.set_cons_succ, List.set_cons_zero]; go_big_quiet_on)
            iterate 2 (apply quiet_val; (focus rfl); (focus (intro w' hw'; have hk' := hw'.cells; go_simp; all_goals exact rfl)); simp only [Act.put, List.setIfInBounds_toArray, List.set_cons_succ, List.set_cons_zero])
            refine wpQuiet_nil ?_
            intro y1 hy1
            have HXY := hide (HT.out.trans hy1)
            clear hy1
            go_wp2_with fail
            go_ret
            exact Ret.mk rfl HXY.out
          · obtain ⟨ma0, ma1, mas⟩ := HB_a.out wr HXR.out
            obtain ⟨mb0, mb1, mbs⟩ := HB_b.out wr HXR.out
            go_wp2_with fail
            refine (ShortestDifferenceI_any _ _ _ _ b a _ (HN_b.out.ext HXR.out) (HF_b.out.ext HXR.out) (HN_a.out.ext HXR.out) (HF_a.out.ext HXR.out)).mono ?_
            rintro e v121 ⟨okb, wsb, vwr, hX, rfl, hR⟩
            obtain ⟨Ar, cr, rfl⟩ := hR.formS
            have hS := hR.intsS (SdX.i64 hX)
            have hx := hR.extS
            clear hR
            clear ma0 ma1 mas mb0 mb1 mbs
            obtain ⟨e1, e2⟩ := HSW.out _ _ hX
            have e2 := e2.symm
            subst e1 e2
            have HWr := hide hS
            have HB_a := hide (fun (W : World) (hW : Ext v121 W) => HB_a.out W ((HXR.out.trans hx).trans hW))
            have HN_a := hide (HN_a.out.ext (HXR.out.trans hx))
            have HF_a := hide (HF_a.out.ext (HXR.out.trans hx))
            have HB_b := hide (fun (W : World) (hW : Ext v121 W) => HB_b.out W ((HXR.out.trans hx).trans hW))
            have HN_b := hide (HN_b.out.ext (HXR.out.trans hx))
            have HF_b := hide (HF_b.out.ext (HXR.out.trans hx))
            have HWp := hide (HWp.out.ext (HXR.out.trans hx))
            have HWq := hide (HWq.out.ext (HXR.out.trans hx))
            have HT := hide (HT.out.trans (HXR.out.trans hx))
            clear hx hS
            obtain ⟨ma0, ma1, mas⟩ := HB_a.out v121 (Ext.refl v121)
            obtain ⟨mb0, mb1, mbs⟩ := HB_b.out v121 (Ext.refl v121)
            have HCE := hide (fun (W : World) (hW : Ext v121 W) => (show Calls Try.prog 27 #[.slice Ar ws.length cr, .slice Ap ws.length cp] W (Ret (.bool true) W) by rw [← decide_eq_true (rfl : ws = ws)]; exact equalIntsA_any _ _ ws ws W (HWr.out.ext hW) (HWp.out.ext hW)))
            obtain ⟨p, hp⟩ : ∃ p, p = accB b ws := ⟨_, rfl⟩
            have hpa : (!p) = accB a ws := by rw [hp]; exact (HAC.out (by omega)).symm
            have HP := hide hp
            have HPA := hide hpa
            clear hp hpa
            have HCA := hide (fun (W : World) (hW : Ext v121 W) => (show Calls Try.prog 16 #[.agg #[.slice Ana a.next.length cna, .slice Afa a.final.length cfa], .slice Ap ws.length cp] W (Ret (.bool (!p)) W) by rw [HPA.out]; exact AutomatonAcceptsI_any _ _ _ a ws W (HN_a.out.ext hW) (HF_a.out.ext hW) (HWp.out.ext hW)))
            have HCB := hide (fun (W : World) (hW : Ext v121 W) => (show Calls Try.prog 16 #[.agg #[.slice Anb b.next.length cnb, .slice Afb b.final.length cfb], .slice Ap ws.length cp] W (Ret (.bool p) W) by rw [HP.out]; exact AutomatonAcceptsI_any _ _ _ b ws W (HN_b.out.ext hW) (HF_b.out.ext hW) (HWp.out.ext hW)))
            clear HP HPA HV HCW HSW HAC
            cases p with
            | false =>
              have HCA := hide (fun (W : World) (hW : Ext v121 W) => (show Calls Try.prog 16 #[.agg #[.slice Ana a.next.length cna, .slice Afa a.final.length cfa], .slice Ap ws.length cp] W (Ret (.bool true) W) from HCA.out W hW))
              go_wp2_with fail
              refine wp_region_ext (by kernel_rfl) (by kernel_rfl) ?_
              iterate 2 (apply quiet_val; (focus rfl); (focus (intro w' hw'; have hk' := hw'.cells; go_simp; all_goals exact rfl)); simp only [Act.put, List.setIfInBounds_toArray, List.set_cons_succ, List.set_cons_zero])
              iterate 2 (go_big_quiet_want; apply quietK_val; (focus (intro w' hw'; have hk' := hw'.cells; go_simp; all_goals exact rfl)); simp only [Act.put, List.setIfInBounds_toArray, List.set_cons_succ, List.set_cons_zero]; go_big_quiet_on)
              go_big_quiet_want; apply quietK_call; (focus (intro w' hw'; go_simp; all_goals (first | exact rfl | (apply And.intro <;> exact rfl))))
              · exact fun w' hw' => Ret.quiet (HCE.out w' hw') hw'
              (simp only [Act.put, List.setIfInBounds_toArray, List.set_cons_succ, List.set_cons_zero]; go_big_quiet_on)
              iterate 2 (apply quiet_val; (focus rfl); (focus (intro w' hw'; have hk' := hw'.cells; go_simp; all_goals exact rfl)); simp only [Act.put, List.setIfInBounds_toArray, List.set_cons_succ, List.set_cons_zero])
              have hlg : decide ((8 : Int) < (ws.length : Int)) = false := decide_eq_false (by omega)
              iterate 4 (go_big_quiet_want; apply quietK_val; (focus (intro w' hw'; have hk' := hw'.cells; go_simp; all_goals exact rfl)); simp only [Act.put, List.setIfInBounds_toArray, List.set_cons_succ, List.set_cons_zero]; go_big_quiet_on)
              iterate 2 (go_big_quiet_want; apply quietK_val; (focus (intro w' hw'; have hk' := hw'.cells; go_simp; all_goals exact rfl)); simp only [Act.put, List.setIfInBounds_toArray, List.set_cons_succ, List.set_cons_zero]; go_big_quiet_on)
              go_big_quiet_want; apply quietK_call; (focus (intro w' hw'; go_simp; all_goals (first | exact rfl | (apply And.intro <;> exact rfl))))
              · exact fun w' hw' => Ret.quiet (HCA.out w' hw') hw'
              (simp only [Act.put, List.setIfInBounds_toArray, List.set_cons_succ, List.set_cons_zero]; go_big_quiet_on)
              iterate 2 (go_big_quiet_want; apply quietK_val; (focus (intro w' hw'; have hk' := hw'.cells; go_simp; all_goals exact rfl)); simp only [Act.put, List.setIfInBounds_toArray, List.set_cons_succ, List.set_cons_zero]; go_big_quiet_on)
              go_big_quiet_want; apply quietK_call; (focus (intro w' hw'; go_simp; all_goals (first | exact rfl | (apply And.intro <;> exact rfl))))
              · exact fun w' hw' => Ret.quiet (HCB.out w' hw') hw'
              (simp only [Act.put, List.setIfInBounds_toArray, List.set_cons_succ, List.set_cons_zero]; go_big_quiet_on)
              iterate 2 (go_big_quiet_want; apply quietK_val; (focus (intro w' hw'; have hk' := hw'.cells; go_simp; all_goals exact rfl)); simp only [Act.put, List.setIfInBounds_toArray, List.set_cons_succ, List.set_cons_zero]; go_big_quiet_on)
              iterate 2 (apply quiet_val; (focus rfl); (focus (intro w' hw'; have hk' := hw'.cells; go_simp; all_goals exact rfl)); simp only [Act.put, List.setIfInBounds_toArray, List.set_cons_succ, List.set_cons_zero])
              refine wpQuiet_nil ?_
              intro y1 hy1
              have HXY := hide (HT.out.trans hy1)
              clear hy1
              go_wp2_with fail
              go_ret
              exact Ret.mk rfl HXY.out
            | true =>
              have HCA := hide (fun (W : World) (hW : Ext v121 W) => (show Calls Try.prog 16 #[.agg #[.slice Ana a.next.length cna, .slice Afa a.final.length cfa], .slice Ap ws.length cp] W (Ret (.bool false) W) from HCA.out W hW))
              go_wp2_with fail
              refine wp_region_ext (by kernel_rfl) (by kernel_rfl) ?_
              iterate 2 (apply quiet_val; (focus rfl); (focus (intro w' hw'; have hk' := hw'.cells; go_simp; all_goals exact rfl)); simp only [Act.put, List.setIfInBounds_toArray, List.set_cons_succ, List.set_cons_zero])
              iterate 2 (go_big_quiet_want; apply quietK_val; (focus (intro w' hw'; have hk' := hw'.cells; go_simp; all_goals exact rfl)); simp only [Act.put, List.setIfInBounds_toArray, List.set_cons_succ, List.set_cons_zero]; go_big_quiet_on)
              go_big_quiet_want; apply quietK_call; (focus (intro w' hw'; go_simp; all_goals (first | exact rfl | (apply And.intro <;> exact rfl))))
              · exact fun w' hw' => Ret.quiet (HCE.out w' hw') hw'
              (simp only [Act.put, List.setIfInBounds_toArray, List.set_cons_succ, List.set_cons_zero]; go_big_quiet_on)
              iterate 2 (apply quiet_val; (focus rfl); (focus (intro w' hw'; have hk' := hw'.cells; go_simp; all_goals exact rfl)); simp only [Act.put, List.setIfInBounds_toArray, List.set_cons_succ, List.set_cons_zero])
              have hlg : decide ((8 : Int) < (ws.length : Int)) = false := decide_eq_false (by omega)
              iterate 4 (go_big_quiet_want; apply quietK_val; (focus (intro w' hw'; have hk' := hw'.cells; go_simp; all_goals exact rfl)); simp only [Act.put, List.setIfInBounds_toArray, List.set_cons_succ, List.set_cons_zero]; go_big_quiet_on)
              iterate 2 (go_big_quiet_want; apply quietK_val; (focus (intro w' hw'; have hk' := hw'.cells; go_simp; all_goals exact rfl)); simp only [Act.put, List.setIfInBounds_toArray, List.set_cons_succ, List.set_cons_zero]; go_big_quiet_on)
              go_big_quiet_want; apply quietK_call; (focus (intro w' hw'; go_simp; all_goals (first | exact rfl | (apply And.intro <;> exact rfl))))
              · exact fun w' hw' => Ret.quiet (HCA.out w' hw') hw'
              (simp only [Act.put, List.setIfInBounds_toArray, List.set_cons_succ, List.set_cons_zero]; go_big_quiet_on)
              iterate 2 (go_big_quiet_want; apply quietK_val; (focus (intro w' hw'; have hk' := hw'.cells; go_simp; all_goals exact rfl)); simp only [Act.put, List.setIfInBounds_toArray, List.set_cons_succ, List.set_cons_zero]; go_big_quiet_on)
              go_big_quiet_want; apply quietK_call; (focus (intro w' hw'; go_simp; all_goals (first | exact rfl | (apply And.intro <;> exact rfl))))
              · exact fun w' hw' => Ret.quiet (HCB.out w' hw') hw'
              (simp only [Act.put, List.setIfInBounds_toArray, List.set_cons_succ, List.set_cons_zero]; go_big_quiet_on)
              iterate 2 (go_big_quiet_want; apply quietK_val; (focus (intro w' hw'; have hk' := hw'.cells; go_simp; all_goals exact rfl)); simp only [Act.put, List.setIfInBounds_toArray, List.set_cons_succ, List.set_cons_zero]; go_big_quiet_on)
              iterate 2 (apply quiet_val; (focus rfl); (focus (intro w' hw'; have hk' := hw'.cells; go_simp; all_goals exact rfl)); simp only [Act.put, List.setIfInBounds_toArray, List.set_cons_succ, List.set_cons_zero])
              refine wpQuiet_nil ?_
              intro y1 hy1
              have HXY := hide (HT.out.trans hy1)
              clear hy1
              go_wp2_with fail
              go_ret
              exact Ret.mk rfl HXY.out
end Go.Proofs.Ytdiedghaoleblaa
/- The law FnDifference holds: the shortest difference is accepted by exactly one automaton. No condition. -/
namespace Go.Proofs.Ytdiedghaoleblaa
open Go.ChangeShapes Go.WideShapes Go.ChangeAt Go.RowKit

theorem Try.ownFnDifference : ownKnob Try.prog.godebug = none := by kernel_rfl
theorem Try.laidOutFnDifference : laidOutB Try.prog = true := by kernel_rfl

set_option maxRecDepth 100000 in
theorem fnDifference_lifted (os : Os) (started : os.Started) (H : Type) (enc : TypeId × Value → H) :
    ReturnsInHanded {} Try.checked os 7 .any (Rows.fnDifferenceSpec.pre6 enc Try.prog Try.f7 Rows.fnDifferenceRow.domain false) (Rows.fnDifferenceSpec.post enc Try.prog Try.f7 false true false false) := by
  refine returnsInHanded_of_change_sized (C := Try.checked) Try.ownFnDifference started (by kernel_rfl) Try.func7
    (ChangeSpec.witness6 (enc := enc) (C := Try.checked) false ⟨#[], #[.slice none 0 0], []⟩ 8 (by kernel_rfl) (by kernel_rfl) (by kernel_rfl) (by kernel_rfl)) ?_
  intro W base args ds gs before hval0 hW hcnd hsz0 _
  have hval : ∀ (j : Nat) t v, Try.f7.params[j]? = some t → args[j]? = some v → Value.okWide Try.prog W .any base t v := hval0
  have hsz : (DataW.weightsEach Try.prog (Try.f7.params.toList ++ Rows.fnDifferenceSpec.plain.varTypes Try.prog) (ds ++ gs)).all (· ≤ reachBytes) = true := hsz0
  have hW' := hW
  obtain ⟨p, q, hA0, hV, rfl, hfz, hnd⟩ := hW
  have hA : DataW.TrodAll enc Try.prog W 0 (fun _ => true) true Try.f7.params.toList args.toList ds p := hA0
  rw [Try.params7] at hA hval hsz
  obtain ⟨v0, vs0, d0, ds0, p0, q0, hargs, rfl, rfl, h0, r0⟩ := trodAll_cons hA
  obtain ⟨rfl, rfl, rfl⟩ := trodAll_nil r0
  obtain rfl : args = #[v0] := by cases args; simp_all
  obtain ⟨rfl, rfl⟩ := trodVars_none hV
  have k0 := h0
  have lt0 : ∀ x ∈ p0, x.block < W.heap.size := by obtain ⟨m, hm⟩ := k0; exact DataW.trod_lt m _ _ _ hm
  obtain ⟨x0, hB0, hn0⟩ := bytes_of_trod Try.underlying22 Try.underlying5 (by kernel_rfl) (by kernel_rfl) (hval 0 22 v0 rfl rfl) h0
    (fun elems spare hd => sized_slice hsz (j := 0) (t := 22) (e := 5) rfl (by simp [hd]) Try.underlying22)
  clear hA0 hval0 hsz0
  refine (lawDifference v0 x0 W hB0 hn0).mono fun e W' ⟨he, bel⟩ => ?_
  subst he
  exact ⟨_, rfl, _, _, _, [], _, [], hW', trodAll_mk1 (shut_bool Try.underlying4 _), (trodAll_cons_mk (Below.trod Try.laidOutFnDifference (by kernel_rfl) (of_decide_eq_true (by kernel_rfl)) k0 bel lt0) trodAll_mk0), rfl, Below.frame bel _, fun h => by cases h⟩

theorem fnDifference_holds : Rows.FnDifferenceSaid :=
  OpenClaim.holds_of_wide 7 Try.f7 rfl rfl rfl rfl rfl rfl rfl ⟨rfl, rfl, rfl, rfl, rfl⟩ rfl rfl rfl rfl rfl (by kernel_rfl) Try.func7 (by kernel_rfl)
    (of_decide_eq_true (by kernel_rfl)) (by unfold Func.isWrapper; first | (rw [if_pos (by decide +kernel)]; kernel_rfl) | (rw [if_neg (by decide +kernel)]; exact ⟨rfl, rfl⟩))
    (fun os started H enc _ => fnDifference_lifted os started H enc)
#print axioms fnDifference_holds
end Go.Proofs.Ytdiedghaoleblaa
