/- The walk of the law FnMinimizeAutomaton: it returns true. Printed by genlawsd.py. -/
import Derived.Test.YtdiedghaoleblaaAutL
import Derived.Test.YtdiedghaoleblaaMcA
import Derived.Test.YtdiedghaoleblaaQ21
import Derived.Test.YtdiedghaoleblaaOpnA
import Derived.ShutString
import Derived.ChangeOld
namespace Go.Proofs.Ytdiedghaoleblaa
open Go.RowKit
attribute [local go_sem] evalOf

set_option maxRecDepth 100000 in
set_option maxHeartbeats 16000000 in
theorem lawMinimizeP (v v2 : Value) (n n2 : Nat) (w : World) (hB : SBytes w v n) (_hn : n ≤ 140737488351232) (hB2 : SBytes w v2 n2) (_hn2 : n2 ≤ 140737488351232) :
    Calls Try.prog 3 #[v, v2] w (Ret (.bool true) w) := by
  have HB := hide hB
  have HB2 := hide hB2
  obtain ⟨A, c, rfl, -⟩ := hB
  obtain ⟨A2, c2, rfl, -⟩ := hB2
  by_cases hl : (1048576 : Int) < n
  · go_enter Try.func3, Try.ntmps3
    go_wp2
    go_ret
    exact Ret.mk rfl (Ext.refl _)
  by_cases hl2 : (1048576 : Int) < n2
  · go_enter Try.func3, Try.ntmps3
    go_wp2
    go_ret
    exact Ret.mk rfl (Ext.refl _)
  · go_enter Try.func3, Try.ntmps3
    go_wp2_with fail
    refine (DrawMinimizeAutomaton_any _ n _ HB.out).mono ?_
    rintro e wd ⟨vna, vfa, a, rfl, hN, hF, hx⟩
    obtain ⟨Ana, cna, rfl, -⟩ := hN.form
    obtain ⟨Afa, cfa, rfl, -⟩ := hF.form
    have hNa := hide hN
    have hFa := hide hF
    have HXd := hide hx
    clear hN hF hx
    go_upto_region 4 with fail
    obtain ⟨u0, hu0⟩ : ∃ x, x = wd.alloc (.cells #[.slice Ana a.next.length cna, .slice Afa a.final.length cfa] 26) := ⟨_, rfl⟩
    obtain ⟨qa, hqa⟩ : ∃ x, x = wd.heap.size := ⟨_, rfl⟩
    have hxa : Ext wd u0 := by rw [hu0]; exact (Ext.refl wd).alloc _
    have hc0 : u0.cell? ⟨qa, 0, none⟩ = some (.slice Ana a.next.length cna) := by rw [hu0, hqa]; go_simp
    have hc1 : u0.cell? ⟨qa, 1, none⟩ = some (.slice Afa a.final.length cfa) := by rw [hu0, hqa]; go_simp
    have hcs : qa < u0.heap.size := by rw [hu0, hqa]; simp
    rw [← hu0, ← hqa]
    clear hu0 hqa
    have HB2 := hide (HB2.out.ext HXd.out)
    have HB2 := hide (HB2.out.ext hxa)
    have HB_a := hide (fun (W : World) (hW : Ext u0 W) => (show W.cell? ⟨qa, 0, none⟩ = some (.slice Ana a.next.length cna) ∧ W.cell? ⟨qa, 1, none⟩ = some (.slice Afa a.final.length cfa) ∧ qa < W.heap.size from ⟨(hW.cells _ _ hcs).trans hc0, (hW.cells _ _ hcs).trans hc1, Nat.lt_of_lt_of_le hcs hW.size⟩))
    have HN_a := hide (hNa.out.ext hxa)
    have HF_a := hide (hFa.out.ext hxa)
    have HT := hide (HXd.out.trans hxa)
    clear hxa hc0 hc1 hcs hNa hFa
    obtain ⟨ma0, ma1, mas⟩ := HB_a.out u0 (Ext.refl u0)
    go_wp2_with fail
    refine (MinimizeI_any _ _ a _ (HN_a.out.ext (Ext.refl u0)) (HF_a.out.ext (Ext.refl u0))).mono ?_
    rintro e v1 ⟨ok, r, f, hV, hS⟩
    obtain ⟨vnb, vfb, rfl, hN, hF, hx⟩ := hS.sp hV.ok
    have HV := hide hV
    obtain ⟨Anb, cnb, rfl, -⟩ := hN.form
    obtain ⟨Afb, cfb, rfl, -⟩ := hF.form
    have hNb := hide hN
    have hFb := hide hF
    clear ma0 ma1 mas
    have HXv1 := hide ((Ext.refl u0).trans hx)
    clear hN hF hx
    go_upto_region 5 with fail
    obtain ⟨u1, hu1⟩ : ∃ x, x = v1.alloc (.cells #[.slice Anb r.length cnb, .slice Afb f.length cfb] 26) := ⟨_, rfl⟩
    obtain ⟨qb, hqb⟩ : ∃ x, x = v1.heap.size := ⟨_, rfl⟩
    have hxa : Ext v1 u1 := by rw [hu1]; exact (Ext.refl v1).alloc _
    have hc0 : u1.cell? ⟨qb, 0, none⟩ = some (.slice Anb r.length cnb) := by rw [hu1, hqb]; go_simp
    have hc1 : u1.cell? ⟨qb, 1, none⟩ = some (.slice Afb f.length cfb) := by rw [hu1, hqb]; go_simp
    have hcs : qb < u1.heap.size := by rw [hu1, hqb]; simp
    rw [← hu1, ← hqb]
    clear hu1 hqb
    have HB_a := hide (fun (W : World) (hW : Ext u1 W) => HB_a.out W ((HXv1.out.trans hxa).trans hW))
    have HN_a := hide (HN_a.out.ext (HXv1.out.trans hxa))
    have HF_a := hide (HF_a.out.ext (HXv1.out.trans hxa))
    have HB2 := hide (HB2.out.ext (HXv1.out.trans hxa))
    have HB_b := hide (fun (W : World) (hW : Ext u1 W) => (show W.cell? ⟨qb, 0, none⟩ = some (.slice Anb r.length cnb) ∧ W.cell? ⟨qb, 1, none⟩ = some (.slice Afb f.length cfb) ∧ qb < W.heap.size from ⟨(hW.cells _ _ hcs).trans hc0, (hW.cells _ _ hcs).trans hc1, Nat.lt_of_lt_of_le hcs hW.size⟩))
    have HN_b := hide (hNb.out.ext hxa)
    have HF_b := hide (hFb.out.ext hxa)
    have HT := hide (HT.out.trans (HXv1.out.trans hxa))
    clear hxa hc0 hc1 hcs hNb hFb HXv1
    obtain ⟨ma0, ma1, mas⟩ := HB_a.out u1 (Ext.refl u1)
    go_wp2_with fail
    refine (MinimizeS_any _ _ a _ (HN_a.out.ext (Ext.refl u1)) (HF_a.out.ext (Ext.refl u1))).mono ?_
    rintro e v2 ⟨ok2, r2, f2, hV2, hS⟩
    obtain ⟨vnc, vfc, rfl, hN, hF, hx⟩ := hS
    obtain ⟨rfl, rfl, rfl⟩ := HV.out.uniq hV2
    obtain ⟨Anc, cnc, rfl, -⟩ := hN.form
    obtain ⟨Afc, cfc, rfl, -⟩ := hF.form
    have hNc := hide hN
    have hFc := hide hF
    clear ma0 ma1 mas
    have HXv2 := hide ((Ext.refl u1).trans hx)
    clear hN hF hx
    go_upto_region 6 with fail
    obtain ⟨u2, hu2⟩ : ∃ x, x = v2.alloc (.cells #[.slice Anc r.length cnc, .slice Afc f.length cfc] 26) := ⟨_, rfl⟩
    obtain ⟨qc, hqc⟩ : ∃ x, x = v2.heap.size := ⟨_, rfl⟩
    have hxa : Ext v2 u2 := by rw [hu2]; exact (Ext.refl v2).alloc _
    have hc0 : u2.cell? ⟨qc, 0, none⟩ = some (.slice Anc r.length cnc) := by rw [hu2, hqc]; go_simp
    have hc1 : u2.cell? ⟨qc, 1, none⟩ = some (.slice Afc f.length cfc) := by rw [hu2, hqc]; go_simp
    have hcs : qc < u2.heap.size := by rw [hu2, hqc]; simp
    rw [← hu2, ← hqc]
    clear hu2 hqc
    have HB_a := hide (fun (W : World) (hW : Ext u2 W) => HB_a.out W ((HXv2.out.trans hxa).trans hW))
    have HN_a := hide (HN_a.out.ext (HXv2.out.trans hxa))
    have HF_a := hide (HF_a.out.ext (HXv2.out.trans hxa))
    have HB_b := hide (fun (W : World) (hW : Ext u2 W) => HB_b.out W ((HXv2.out.trans hxa).trans hW))
    have HN_b := hide (HN_b.out.ext (HXv2.out.trans hxa))
    have HF_b := hide (HF_b.out.ext (HXv2.out.trans hxa))
    have HB2 := hide (HB2.out.ext (HXv2.out.trans hxa))
    have HB_c := hide (fun (W : World) (hW : Ext u2 W) => (show W.cell? ⟨qc, 0, none⟩ = some (.slice Anc r.length cnc) ∧ W.cell? ⟨qc, 1, none⟩ = some (.slice Afc f.length cfc) ∧ qc < W.heap.size from ⟨(hW.cells _ _ hcs).trans hc0, (hW.cells _ _ hcs).trans hc1, Nat.lt_of_lt_of_le hcs hW.size⟩))
    have HN_c := hide (hNc.out.ext hxa)
    have HF_c := hide (hFc.out.ext hxa)
    have HT := hide (HT.out.trans (HXv2.out.trans hxa))
    clear hxa hc0 hc1 hcs hNc hFc HXv2
    obtain ⟨mb0, mb1, mbs⟩ := HB_b.out u2 (Ext.refl u2)
    obtain ⟨mc0, mc1, mcs⟩ := HB_c.out u2 (Ext.refl u2)
    have hbb : (ok != ok) = false := by simp
    have hbe : (ok == ok) = true := by simp
    go_wp2_with fail
    refine (equalAutomata_any _ _ _ _ r r f f _ (HN_b.out.ext (Ext.refl u2)) (HF_b.out.ext (Ext.refl u2)) (HN_c.out.ext (Ext.refl u2)) (HF_c.out.ext (Ext.refl u2))).mono ?_
    rw [eqAu_self]
    rintro e v3 ⟨rfl, hx⟩
    clear mb0 mb1 mbs mc0 mc1 mcs
    have HXv3 := hide ((Ext.refl u2).trans hx)
    clear hx
    cases ok with
    | false =>
      obtain ⟨mb0, mb1, mbs⟩ := HB_b.out v3 HXv3.out
      obtain ⟨mc0, mc1, mcs⟩ := HB_c.out v3 HXv3.out
      go_wp2_with fail
      refine (equalAutomata_any _ _ _ _ r r f f _ (HN_b.out.ext HXv3.out) (HF_b.out.ext HXv3.out) (HN_c.out.ext HXv3.out) (HF_c.out.ext HXv3.out)).mono ?_
      rw [eqAu_self]
      rintro e v44 ⟨rfl, hx⟩
      clear mb0 mb1 mbs mc0 mc1 mcs
      have HXv44 := hide (HXv3.out.trans hx)
      clear hx
      go_wp2_with fail
      go_ret
      exact Ret.mk rfl (HT.out.trans HXv44.out)
    | true =>
      obtain ⟨hva, hvb, hle, hid, hac, hsd⟩ := min_all HV.out
      have HVB := hide hvb
      have hleI : (r.length : Int) ≤ a.next.length := by omega
      have HID := hide hid
      have HAC := hide hac
      have HSD := hide hsd
      clear hva hvb hid hac hsd
      go_wp2_with fail
      refine (someWord_any _ n2 _ (HB2.out.ext HXv3.out)).mono ?_
      rintro e z0 ⟨vw, xs, rfl, hS, hxw, hx⟩
      obtain ⟨Aw, cw, rfl, -⟩ := hS.form
      have HW := hide hS
      obtain ⟨p, hp⟩ : ∃ p, p = accB a xs := ⟨_, rfl⟩
      have hpq : p = accB ⟨r, f⟩ xs := by rw [hp]; exact HAC.out xs hxw
      have HP := hide hp
      have HQ := hide hpq
      clear hS hxw hp hpq
      have HB_a := hide (fun (W : World) (hW : Ext z0 W) => HB_a.out W ((HXv3.out.trans hx).trans hW))
      have HN_a := hide (HN_a.out.ext (HXv3.out.trans hx))
      have HF_a := hide (HF_a.out.ext (HXv3.out.trans hx))
      have HB_b := hide (fun (W : World) (hW : Ext z0 W) => HB_b.out W ((HXv3.out.trans hx).trans hW))
      have HN_b := hide (HN_b.out.ext (HXv3.out.trans hx))
      have HF_b := hide (HF_b.out.ext (HXv3.out.trans hx))
      have HB_c := hide (fun (W : World) (hW : Ext z0 W) => HB_c.out W ((HXv3.out.trans hx).trans hW))
      have HN_c := hide (HN_c.out.ext (HXv3.out.trans hx))
      have HF_c := hide (HF_c.out.ext (HXv3.out.trans hx))
      have HB2 := hide (HB2.out.ext (HXv3.out.trans hx))
      have HT := hide (HT.out.trans (HXv3.out.trans hx))
      clear hx
      obtain ⟨mb0, mb1, mbs⟩ := HB_b.out z0 (Ext.refl z0)
      go_wp2_with fail
      refine (MinimizeI_any _ _ ⟨r, f⟩ _ (HN_b.out.ext (Ext.refl z0)) (HF_b.out.ext (Ext.refl z0))).mono ?_
      rintro e v11 ⟨ok3, r3, f3, hV3, hS⟩
      obtain ⟨vng, vfg, rfl, hN, hF, hx⟩ := hS.sp hV3.ok
      obtain ⟨e1, e2, e3⟩ := HID.out _ _ _ hV3
      have e2 := e2.symm
      have e3 := e3.symm
      subst e1 e2 e3
      obtain ⟨Ang, cng, rfl, -⟩ := hN.form
      obtain ⟨Afg, cfg, rfl, -⟩ := hF.form
      have hNg := hide hN
      have hFg := hide hF
      clear mb0 mb1 mbs
      have HXv11 := hide ((Ext.refl z0).trans hx)
      clear hN hF hx
      go_upto_region 10 with fail
      obtain ⟨u11, hu11⟩ : ∃ x, x = v11.alloc (.cells #[.slice Ang r.length cng, .slice Afg f.length cfg] 26) := ⟨_, rfl⟩
      obtain ⟨qg, hqg⟩ : ∃ x, x = v11.heap.size := ⟨_, rfl⟩
      have hxa : Ext v11 u11 := by rw [hu11]; exact (Ext.refl v11).alloc _
      have hc0 : u11.cell? ⟨qg, 0, none⟩ = some (.slice Ang r.length cng) := by rw [hu11, hqg]; go_simp
      have hc1 : u11.cell? ⟨qg, 1, none⟩ = some (.slice Afg f.length cfg) := by rw [hu11, hqg]; go_simp
      have hcs : qg < u11.heap.size := by rw [hu11, hqg]; simp
      rw [← hu11, ← hqg]
      clear hu11 hqg
      have HB_a := hide (fun (W : World) (hW : Ext u11 W) => HB_a.out W ((HXv11.out.trans hxa).trans hW))
      have HN_a := hide (HN_a.out.ext (HXv11.out.trans hxa))
      have HF_a := hide (HF_a.out.ext (HXv11.out.trans hxa))
      have HB_b := hide (fun (W : World) (hW : Ext u11 W) => HB_b.out W ((HXv11.out.trans hxa).trans hW))
      have HN_b := hide (HN_b.out.ext (HXv11.out.trans hxa))
      have HF_b := hide (HF_b.out.ext (HXv11.out.trans hxa))
      have HB_c := hide (fun (W : World) (hW : Ext u11 W) => HB_c.out W ((HXv11.out.trans hxa).trans hW))
      have HN_c := hide (HN_c.out.ext (HXv11.out.trans hxa))
      have HF_c := hide (HF_c.out.ext (HXv11.out.trans hxa))
      have HW := hide (HW.out.ext (HXv11.out.trans hxa))
      have HB_g := hide (fun (W : World) (hW : Ext u11 W) => (show W.cell? ⟨qg, 0, none⟩ = some (.slice Ang r.length cng) ∧ W.cell? ⟨qg, 1, none⟩ = some (.slice Afg f.length cfg) ∧ qg < W.heap.size from ⟨(hW.cells _ _ hcs).trans hc0, (hW.cells _ _ hcs).trans hc1, Nat.lt_of_lt_of_le hcs hW.size⟩))
      have HN_g := hide (hNg.out.ext hxa)
      have HF_g := hide (hFg.out.ext hxa)
      have HT := hide (HT.out.trans (HXv11.out.trans hxa))
      clear hxa hc0 hc1 hcs hNg hFg HXv11
      obtain ⟨ma0, ma1, mas⟩ := HB_a.out u11 (Ext.refl u11)
      obtain ⟨mb0, mb1, mbs⟩ := HB_b.out u11 (Ext.refl u11)
      go_wp2_with fail
      refine (ShortestDifferenceI_any _ _ _ _ a ⟨r, f⟩ _ (HN_a.out.ext (Ext.refl u11)) (HF_a.out.ext (Ext.refl u11)) (HN_b.out.ext (Ext.refl u11)) (HF_b.out.ext (Ext.refl u11))).mono ?_
      rintro e v12 ⟨okd, wd2, vwd, hX, rfl, hR⟩
      obtain ⟨Ad, cd, rfl⟩ := hR.formS
      have hS := hR.intsS (SdX.i64 hX)
      have hx := hR.extS
      clear hR
      clear ma0 ma1 mas mb0 mb1 mbs
      obtain rfl := HSD.out _ _ hX
      have HWd := hide hS
      have HB_a := hide (fun (W : World) (hW : Ext v12 W) => HB_a.out W (((Ext.refl u11).trans hx).trans hW))
      have HN_a := hide (HN_a.out.ext ((Ext.refl u11).trans hx))
      have HF_a := hide (HF_a.out.ext ((Ext.refl u11).trans hx))
      have HB_b := hide (fun (W : World) (hW : Ext v12 W) => HB_b.out W (((Ext.refl u11).trans hx).trans hW))
      have HN_b := hide (HN_b.out.ext ((Ext.refl u11).trans hx))
      have HF_b := hide (HF_b.out.ext ((Ext.refl u11).trans hx))
      have HB_c := hide (fun (W : World) (hW : Ext v12 W) => HB_c.out W (((Ext.refl u11).trans hx).trans hW))
      have HN_c := hide (HN_c.out.ext ((Ext.refl u11).trans hx))
      have HF_c := hide (HF_c.out.ext ((Ext.refl u11).trans hx))
      have HB_g := hide (fun (W : World) (hW : Ext v12 W) => HB_g.out W (((Ext.refl u11).trans hx).trans hW))
      have HN_g := hide (HN_g.out.ext ((Ext.refl u11).trans hx))
      have HF_g := hide (HF_g.out.ext ((Ext.refl u11).trans hx))
      have HW := hide (HW.out.ext ((Ext.refl u11).trans hx))
      have HT := hide (HT.out.trans ((Ext.refl u11).trans hx))
      clear hx hS
      obtain ⟨ma0, ma1, mas⟩ := HB_a.out v12 (Ext.refl v12)
      obtain ⟨mb0, mb1, mbs⟩ := HB_b.out v12 (Ext.refl v12)
      obtain ⟨mg0, mg1, mgs⟩ := HB_g.out v12 (Ext.refl v12)
      have HCV := hide (fun (W : World) (hW : Ext v12 W) => (show Calls Try.prog 15 #[.agg #[.slice Anb r.length cnb, .slice Afb f.length cfb]] W (Ret (.bool true) W) by rw [← HVB.out]; exact ValidAutomatonI_any _ _ ⟨r, f⟩ W (HN_b.out.ext hW) (HF_b.out.ext hW)))
      have HCA := hide (fun (W : World) (hW : Ext v12 W) => (show Calls Try.prog 16 #[.agg #[.slice Ana a.next.length cna, .slice Afa a.final.length cfa], .slice Aw xs.length cw] W (Ret (.bool p) W) by rw [HP.out]; exact AutomatonAcceptsI_any _ _ _ a xs W (HN_a.out.ext hW) (HF_a.out.ext hW) (HW.out.ext hW)))
      have HCB := hide (fun (W : World) (hW : Ext v12 W) => (show Calls Try.prog 16 #[.agg #[.slice Anb r.length cnb, .slice Afb f.length cfb], .slice Aw xs.length cw] W (Ret (.bool p) W) by rw [HQ.out]; exact AutomatonAcceptsI_any _ _ _ ⟨r, f⟩ xs W (HN_b.out.ext hW) (HF_b.out.ext hW) (HW.out.ext hW)))
      have HEQ := hide (fun (W : World) (hW : Ext v12 W) => (show Calls Try.prog 12 #[.agg #[.slice Anb r.length cnb, .slice Afb f.length cfb], .agg #[.slice Ang r.length cng, .slice Afg f.length cfg]] W (Ret (.bool true) W) by rw [← eqAu_self r f]; exact equalAutomata_any _ _ _ _ r r f f W (HN_b.out.ext hW) (HF_b.out.ext hW) (HN_g.out.ext hW) (HF_g.out.ext hW)))
      clear HP HQ
      have hpp : (p == p) = true := by simp
      go_wp2_with fail
      refine wp_region_ext (by kernel_rfl) (by kernel_rfl) ?_
      (apply quiet_val; (focus rfl); (focus (intro w' hw'; have hk' := hw'.cells; go_simp; all_goals exact rfl)); simp only [Act.put, List.setIfInBounds_toArray, List.set_cons_succ, List.set_cons_zero])
      apply quiet_call; (focus rfl); (focus (intro w' hw'; go_simp; all_goals (first | exact rfl | (apply And.intro <;> exact rfl))))
      · exact fun w' hw' => Ret.quiet (HCV.out w' hw') hw'
      (simp only [Act.put, List.setIfInBounds_toArray, List.set_cons_succ, List.set_cons_zero])
      (apply quiet_val; (focus rfl); (focus (intro w' hw'; have hk' := hw'.cells; go_simp; all_goals exact rfl)); simp only [Act.put, List.setIfInBounds_toArray, List.set_cons_succ, List.set_cons_zero])
      iterate 7 (go_big_quiet_want; apply quietK_val; (focus (intro w' hw'; have hk' := hw'.cells; go_simp; all_goals exact rfl)); simp only [Act.put, List.setIfInBounds_toArray, List.set_cons_succ, List.set_cons_zero]; go_big_quiet_on)
      iterate 2 (apply quiet_val; (focus rfl); (focus (intro w' hw'; have hk' := hw'.cells; go_simp; all_goals exact rfl)); simp only [Act.put, List.setIfInBounds_toArray, List.set_cons_succ, List.set_cons_zero])
      (go_big_quiet_want; apply quietK_val; (focus (intro w' hw'; have hk' := hw'.cells; go_simp; all_goals exact rfl)); simp only [Act.put, List.setIfInBounds_toArray, List.set_cons_succ, List.set_cons_zero]; go_big_quiet_on)
      iterate 2 (apply quiet_val; (focus rfl); (focus (intro w' hw'; have hk' := hw'.cells; go_simp; all_goals exact rfl)); simp only [Act.put, List.setIfInBounds_toArray, List.set_cons_succ, List.set_cons_zero])
      iterate 2 (go_big_quiet_want; apply quietK_val; (focus (intro w' hw'; have hk' := hw'.cells; go_simp; all_goals exact rfl)); simp only [Act.put, List.setIfInBounds_toArray, List.set_cons_succ, List.set_cons_zero]; go_big_quiet_on)
      go_big_quiet_want; apply quietK_call; (focus (intro w' hw'; go_simp; all_goals (first | exact rfl | (apply And.intro <;> exact rfl))))
      · exact fun w' hw' => Ret.quiet (HEQ.out w' hw') hw'
      (simp only [Act.put, List.setIfInBounds_toArray, List.set_cons_succ, List.set_cons_zero]; go_big_quiet_on)
      iterate 2 (apply quiet_val; (focus rfl); (focus (intro w' hw'; have hk' := hw'.cells; go_simp; all_goals exact rfl)); simp only [Act.put, List.setIfInBounds_toArray, List.set_cons_succ, List.set_cons_zero])
      iterate 2 (go_big_quiet_want; apply quietK_val; (focus (intro w' hw'; have hk' := hw'.cells; go_simp; all_goals exact rfl)); simp only [Act.put, List.setIfInBounds_toArray, List.set_cons_succ, List.set_cons_zero]; go_big_quiet_on)
      go_big_quiet_want; apply quietK_call; (focus (intro w' hw'; go_simp; all_goals (first | exact rfl | (apply And.intro <;> exact rfl))))
      · exact fun w' hw' => Ret.quiet (HCA.out w' hw') hw'
      (simp only [Act.put, List.setIfInBounds_toArray, List.set_cons_succ, List.set_cons_zero]; go_big_quiet_on)
      iterate 2 (go_big_quiet_want; apply quietK_val; (focus (intro w' hw'; have hk' := hw'.cells; go_simp; all_goals exact rfl)); simp only [Act.put, List.setIfInBounds_toArray, List.set_cons_succ, List.set_cons_zero]; go_big_quiet_on)
      go_big_quiet_want; apply quietK_call; (focus (intro w' hw'; go_simp; all_goals (first | exact rfl | (apply And.intro <;> exact rfl))))
      · exact fun w' hw' => Ret.quiet (HCB.out w' hw') hw'
      (simp only [Act.put, List.setIfInBounds_toArray, List.set_cons_succ, List.set_cons_zero]; go_big_quiet_on)
      (go_big_quiet_want; apply quietK_val; (focus (intro w' hw'; have hk' := hw'.cells; go_simp; all_goals exact rfl)); simp only [Act.put, List.setIfInBounds_toArray, List.set_cons_succ, List.set_cons_zero]; go_big_quiet_on)
      iterate 2 (apply quiet_val; (focus rfl); (focus (intro w' hw'; have hk' := hw'.cells; go_simp; all_goals exact rfl)); simp only [Act.put, List.setIfInBounds_toArray, List.set_cons_succ, List.set_cons_zero])
      iterate 2 (go_big_quiet_want; apply quietK_val; (focus (intro w' hw'; have hk' := hw'.cells; go_simp; all_goals exact rfl)); simp only [Act.put, List.setIfInBounds_toArray, List.set_cons_succ, List.set_cons_zero]; go_big_quiet_on)
      iterate 2 (apply quiet_val; (focus rfl); (focus (intro w' hw'; have hk' := hw'.cells; go_simp; all_goals exact rfl)); simp only [Act.put, List.setIfInBounds_toArray, List.set_cons_succ, List.set_cons_zero])
      refine wpQuiet_nil ?_
      intro y1 hy1
      have HXY := hide (HT.out.trans hy1)
      clear hy1
      go_wp2_with fail
      go_ret
      exact Ret.mk rfl HXY.out
end Go.Proofs.Ytdiedghaoleblaa
/- The law FnMinimizeAutomaton holds: the minimal automaton accepts the same words. No condition. -/
namespace Go.Proofs.Ytdiedghaoleblaa
open Go.ChangeShapes Go.WideShapes Go.ChangeAt Go.RowKit

theorem Try.ownFnMinimizeAutomaton : ownKnob Try.prog.godebug = none := by kernel_rfl
theorem Try.laidOutFnMinimizeAutomaton : laidOutB Try.prog = true := by kernel_rfl

set_option maxRecDepth 100000 in
theorem fnMinimizeAutomaton_lifted (os : Os) (started : os.Started) (H : Type) (enc : TypeId × Value → H) :
    ReturnsInHanded {} Try.checked os 3 .any (Rows.fnMinimizeAutomatonSpec.pre6 enc Try.prog Try.f3 Rows.fnMinimizeAutomatonRow.domain false) (Rows.fnMinimizeAutomatonSpec.post enc Try.prog Try.f3 false true false false) := by
  refine returnsInHanded_of_change_sized (C := Try.checked) Try.ownFnMinimizeAutomaton started (by kernel_rfl) Try.func3
    (ChangeSpec.witness6 (enc := enc) (C := Try.checked) false ⟨#[], #[.slice none 0 0, .slice none 0 0], []⟩ 8 (by kernel_rfl) (by kernel_rfl) (by kernel_rfl) (by kernel_rfl)) ?_
  intro W base args ds gs before hval0 hW hcnd hsz0 _
  have hval : ∀ (j : Nat) t v, Try.f3.params[j]? = some t → args[j]? = some v → Value.okWide Try.prog W .any base t v := hval0
  have hsz : (DataW.weightsEach Try.prog (Try.f3.params.toList ++ Rows.fnMinimizeAutomatonSpec.plain.varTypes Try.prog) (ds ++ gs)).all (· ≤ reachBytes) = true := hsz0
  have hW' := hW
  obtain ⟨p, q, hA0, hV, rfl, hfz, hnd⟩ := hW
  have hA : DataW.TrodAll enc Try.prog W 0 (fun _ => true) true Try.f3.params.toList args.toList ds p := hA0
  rw [Try.params3] at hA hval hsz
  obtain ⟨v0, vs0, d0, ds0, p0, q0, hargs, rfl, rfl, h0, r0⟩ := trodAll_cons hA
  obtain ⟨v1, vs1, d1, ds1, p1, q1, rfl, rfl, rfl, h1, r1⟩ := trodAll_cons r0
  obtain ⟨rfl, rfl, rfl⟩ := trodAll_nil r1
  obtain rfl : args = #[v0, v1] := by cases args; simp_all
  obtain ⟨rfl, rfl⟩ := trodVars_none hV
  have k0 := h0
  have lt0 : ∀ x ∈ p0, x.block < W.heap.size := by obtain ⟨m, hm⟩ := k0; exact DataW.trod_lt m _ _ _ hm
  obtain ⟨x0, hB0, hn0⟩ := bytes_of_trod Try.underlying22 Try.underlying5 (by kernel_rfl) (by kernel_rfl) (hval 0 22 v0 rfl rfl) h0
    (fun elems spare hd => sized_slice hsz (j := 0) (t := 22) (e := 5) rfl (by simp [hd]) Try.underlying22)
  have k1 := h1
  have lt1 : ∀ x ∈ p1, x.block < W.heap.size := by obtain ⟨m, hm⟩ := k1; exact DataW.trod_lt m _ _ _ hm
  obtain ⟨x1, hB1, hn1⟩ := bytes_of_trod Try.underlying22 Try.underlying5 (by kernel_rfl) (by kernel_rfl) (hval 1 22 v1 rfl rfl) h1
    (fun elems spare hd => sized_slice hsz (j := 1) (t := 22) (e := 5) rfl (by simp [hd]) Try.underlying22)
  clear hA0 hval0 hsz0
  refine (lawMinimizeP v0 v1 x0 x1 W hB0 hn0 hB1 hn1).mono fun e W' ⟨he, bel⟩ => ?_
  subst he
  exact ⟨_, rfl, _, _, _, [], _, [], hW', trodAll_mk1 (shut_bool Try.underlying4 _), (trodAll_cons_mk (Below.trod Try.laidOutFnMinimizeAutomaton (by kernel_rfl) (of_decide_eq_true (by kernel_rfl)) k0 bel lt0) (trodAll_cons_mk (Below.trod Try.laidOutFnMinimizeAutomaton (by kernel_rfl) (of_decide_eq_true (by kernel_rfl)) k1 bel lt1) trodAll_mk0)), rfl, Below.frame bel _, fun h => by cases h⟩

theorem fnMinimizeAutomaton_holds : Rows.FnMinimizeAutomatonSaid :=
  OpenClaim.holds_of_wide 3 Try.f3 rfl rfl rfl rfl rfl rfl rfl ⟨rfl, rfl, rfl, rfl, rfl⟩ rfl rfl rfl rfl rfl (by kernel_rfl) Try.func3 (by kernel_rfl)
    (of_decide_eq_true (by kernel_rfl)) (by unfold Func.isWrapper; first | (rw [if_pos (by decide +kernel)]; kernel_rfl) | (rw [if_neg (by decide +kernel)]; exact ⟨rfl, rfl⟩))
    (fun os started H enc _ => fnMinimizeAutomaton_lifted os started H enc)
#print axioms fnMinimizeAutomaton_holds
end Go.Proofs.Ytdiedghaoleblaa
