/- The walk of the law FnComplement: it returns true. Printed by genlawcof.py. -/
import Derived.Test.YtdiedghaoleblaaAutL
import Derived.Test.YtdiedghaoleblaaMcA
import Derived.Test.YtdiedghaoleblaaQ16
import Derived.Test.YtdiedghaoleblaaQ18
import Derived.Test.YtdiedghaoleblaaOpnA
import Derived.ShutString
import Derived.ChangeOld
namespace Go.Proofs.Ytdiedghaoleblaa
open Go.RowKit
attribute [local go_sem] evalOf

set_option maxRecDepth 100000 in
set_option maxHeartbeats 16000000 in
theorem lawComplement (v v2 : Value) (n n2 : Nat) (w : World) (hB : SBytes w v n) (_hn : n ≤ 140737488351232) (hB2 : SBytes w v2 n2) (_hn2 : n2 ≤ 140737488351232) :
    Calls Try.prog 4 #[v, v2] w (Ret (.bool true) w) := by
  have HB := hide hB
  have HB2 := hide hB2
  obtain ⟨A, c, rfl, -⟩ := hB
  obtain ⟨A2, c2, rfl, -⟩ := hB2
  by_cases hl : (1048576 : Int) < n
  · go_enter Try.func4, Try.ntmps4
    go_wp2
    go_ret
    exact Ret.mk rfl (Ext.refl _)
  by_cases hl2 : (1048576 : Int) < n2
  · go_enter Try.func4, Try.ntmps4
    go_wp2
    go_ret
    exact Ret.mk rfl (Ext.refl _)
  · go_enter Try.func4, Try.ntmps4
    go_wp2_with fail
    refine (DrawComplementAutomaton_any _ n _ HB.out).mono ?_
    rintro e wd ⟨vna, vfa, a, rfl, hN, hF, hx⟩
    obtain ⟨Ana, cna, rfl, -⟩ := hN.form
    obtain ⟨Afa, cfa, rfl, -⟩ := hF.form
    have hNa := hide hN
    have hFa := hide hF
    have HXd := hide hx
    clear hN hF hx
    go_upto_region 4 with fail
    obtain ⟨u0, hu0⟩ : ∃ x, x = wd.alloc (.cells #[.slice Ana a.next.length cna, .slice Afa a.final.length cfa] 26) := ⟨_, rfl⟩
    obtain ⟨qa, hqa⟩ : ∃ x, x = wd.heap.size := ⟨_, rfl⟩
    have hxa : Ext wd u0 := by rw [hu0]; exact (Ext.refl wd).alloc _
    have hc0 : u0.cell? ⟨qa, 0, none⟩ = some (.slice Ana a.next.length cna) := by rw [hu0, hqa]; go_simp
    have hc1 : u0.cell? ⟨qa, 1, none⟩ = some (.slice Afa a.final.length cfa) := by rw [hu0, hqa]; go_simp
    have hcs : qa < u0.heap.size := by rw [hu0, hqa]; simp
    rw [← hu0, ← hqa]
    clear hu0 hqa
    have HB2 := hide (HB2.out.ext HXd.out)
    have HB2 := hide (HB2.out.ext hxa)
    have HB_a := hide (fun (W : World) (hW : Ext u0 W) => (show W.cell? ⟨qa, 0, none⟩ = some (.slice Ana a.next.length cna) ∧ W.cell? ⟨qa, 1, none⟩ = some (.slice Afa a.final.length cfa) ∧ qa < W.heap.size from ⟨(hW.cells _ _ hcs).trans hc0, (hW.cells _ _ hcs).trans hc1, Nat.lt_of_lt_of_le hcs hW.size⟩))
    have HN_a := hide (hNa.out.ext hxa)
    have HF_a := hide (hFa.out.ext hxa)
    have HT := hide (HXd.out.trans hxa)
    clear hxa hc0 hc1 hcs hNa hFa
    obtain ⟨ma0, ma1, mas⟩ := HB_a.out u0 (Ext.refl u0)
    go_wp2_with fail
    refine (ComplementI_any _ _ a _ (HN_a.out.ext (Ext.refl u0)) (HF_a.out.ext (Ext.refl u0))).mono ?_
    rintro e v1 ⟨ok, r, f, hV, hS⟩
    obtain ⟨vnb, vfb, rfl, hN, hF, hx⟩ := hS.sp hV.ok
    have HV := hide hV
    obtain ⟨Anb, cnb, rfl, -⟩ := hN.form
    obtain ⟨Afb, cfb, rfl, -⟩ := hF.form
    have hNb := hide hN
    have hFb := hide hF
    clear ma0 ma1 mas
    have HXv1 := hide ((Ext.refl u0).trans hx)
    clear hN hF hx
    go_upto_region 5 with fail
    obtain ⟨u1, hu1⟩ : ∃ x, x = v1.alloc (.cells #[.slice Anb r.length cnb, .slice Afb f.length cfb] 26) := ⟨_, rfl⟩
    obtain ⟨qb, hqb⟩ : ∃ x, x = v1.heap.size := ⟨_, rfl⟩
    have hxa : Ext v1 u1 := by rw [hu1]; exact (Ext.refl v1).alloc _
    have hc0 : u1.cell? ⟨qb, 0, none⟩ = some (.slice Anb r.length cnb) := by rw [hu1, hqb]; go_simp
    have hc1 : u1.cell? ⟨qb, 1, none⟩ = some (.slice Afb f.length cfb) := by rw [hu1, hqb]; go_simp
    have hcs : qb < u1.heap.size := by rw [hu1, hqb]; simp
    rw [← hu1, ← hqb]
    clear hu1 hqb
    have HB_a := hide (fun (W : World) (hW : Ext u1 W) => HB_a.out W ((HXv1.out.trans hxa).trans hW))
    have HN_a := hide (HN_a.out.ext (HXv1.out.trans hxa))
    have HF_a := hide (HF_a.out.ext (HXv1.out.trans hxa))
    have HB2 := hide (HB2.out.ext (HXv1.out.trans hxa))
    have HB_b := hide (fun (W : World) (hW : Ext u1 W) => (show W.cell? ⟨qb, 0, none⟩ = some (.slice Anb r.length cnb) ∧ W.cell? ⟨qb, 1, none⟩ = some (.slice Afb f.length cfb) ∧ qb < W.heap.size from ⟨(hW.cells _ _ hcs).trans hc0, (hW.cells _ _ hcs).trans hc1, Nat.lt_of_lt_of_le hcs hW.size⟩))
    have HN_b := hide (hNb.out.ext hxa)
    have HF_b := hide (hFb.out.ext hxa)
    have HT := hide (HT.out.trans (HXv1.out.trans hxa))
    clear hxa hc0 hc1 hcs hNb hFb HXv1
    obtain ⟨ma0, ma1, mas⟩ := HB_a.out u1 (Ext.refl u1)
    go_wp2_with fail
    refine (ComplementS_any _ _ a _ (HN_a.out.ext (Ext.refl u1)) (HF_a.out.ext (Ext.refl u1))).mono ?_
    rintro e v2 ⟨ok2, r2, f2, hV2, hS⟩
    obtain ⟨vnc, vfc, rfl, hN, hF, hx⟩ := hS
    obtain ⟨rfl, rfl, rfl⟩ := HV.out.uniq hV2
    obtain ⟨Anc, cnc, rfl, -⟩ := hN.form
    obtain ⟨Afc, cfc, rfl, -⟩ := hF.form
    have hNc := hide hN
    have hFc := hide hF
    clear ma0 ma1 mas
    have HXv2 := hide ((Ext.refl u1).trans hx)
    clear hN hF hx
    go_upto_region 6 with fail
    obtain ⟨u2, hu2⟩ : ∃ x, x = v2.alloc (.cells #[.slice Anc r.length cnc, .slice Afc f.length cfc] 26) := ⟨_, rfl⟩
    obtain ⟨qc, hqc⟩ : ∃ x, x = v2.heap.size := ⟨_, rfl⟩
    have hxa : Ext v2 u2 := by rw [hu2]; exact (Ext.refl v2).alloc _
    have hc0 : u2.cell? ⟨qc, 0, none⟩ = some (.slice Anc r.length cnc) := by rw [hu2, hqc]; go_simp
    have hc1 : u2.cell? ⟨qc, 1, none⟩ = some (.slice Afc f.length cfc) := by rw [hu2, hqc]; go_simp
    have hcs : qc < u2.heap.size := by rw [hu2, hqc]; simp
    rw [← hu2, ← hqc]
    clear hu2 hqc
    have HB_a := hide (fun (W : World) (hW : Ext u2 W) => HB_a.out W ((HXv2.out.trans hxa).trans hW))
    have HN_a := hide (HN_a.out.ext (HXv2.out.trans hxa))
    have HF_a := hide (HF_a.out.ext (HXv2.out.trans hxa))
    have HB_b := hide (fun (W : World) (hW : Ext u2 W) => HB_b.out W ((HXv2.out.trans hxa).trans hW))
    have HN_b := hide (HN_b.out.ext (HXv2.out.trans hxa))
    have HF_b := hide (HF_b.out.ext (HXv2.out.trans hxa))
    have HB2 := hide (HB2.out.ext (HXv2.out.trans hxa))
    have HB_c := hide (fun (W : World) (hW : Ext u2 W) => (show W.cell? ⟨qc, 0, none⟩ = some (.slice Anc r.length cnc) ∧ W.cell? ⟨qc, 1, none⟩ = some (.slice Afc f.length cfc) ∧ qc < W.heap.size from ⟨(hW.cells _ _ hcs).trans hc0, (hW.cells _ _ hcs).trans hc1, Nat.lt_of_lt_of_le hcs hW.size⟩))
    have HN_c := hide (hNc.out.ext hxa)
    have HF_c := hide (hFc.out.ext hxa)
    have HT := hide (HT.out.trans (HXv2.out.trans hxa))
    clear hxa hc0 hc1 hcs hNc hFc HXv2
    obtain ⟨mb0, mb1, mbs⟩ := HB_b.out u2 (Ext.refl u2)
    obtain ⟨mc0, mc1, mcs⟩ := HB_c.out u2 (Ext.refl u2)
    have hbb : (ok != ok) = false := by simp
    have hbe : (ok == ok) = true := by simp
    go_wp2_with fail
    refine (equalAutomata_any _ _ _ _ r r f f _ (HN_b.out.ext (Ext.refl u2)) (HF_b.out.ext (Ext.refl u2)) (HN_c.out.ext (Ext.refl u2)) (HF_c.out.ext (Ext.refl u2))).mono ?_
    rw [eqAu_self]
    rintro e v3 ⟨rfl, hx⟩
    clear mb0 mb1 mbs mc0 mc1 mcs
    have HXv3 := hide ((Ext.refl u2).trans hx)
    clear hx
    cases ok with
    | false =>
      obtain ⟨mb0, mb1, mbs⟩ := HB_b.out v3 HXv3.out
      obtain ⟨mc0, mc1, mcs⟩ := HB_c.out v3 HXv3.out
      go_wp2_with fail
      refine (equalAutomata_any _ _ _ _ r r f f _ (HN_b.out.ext HXv3.out) (HF_b.out.ext HXv3.out) (HN_c.out.ext HXv3.out) (HF_c.out.ext HXv3.out)).mono ?_
      rw [eqAu_self]
      rintro e v44 ⟨rfl, hx⟩
      clear mb0 mb1 mbs mc0 mc1 mcs
      have HXv44 := hide (HXv3.out.trans hx)
      clear hx
      go_wp2_with fail
      go_ret
      exact Ret.mk rfl (HT.out.trans HXv44.out)
    | true =>
      obtain ⟨hva, hvb, hcw, hac, hcan⟩ := cmp_all HV.out
      have HVA := hide hva
      have HVB := hide hvb
      have HCW := hide hcw
      have HAC := hide hac
      have HCAN := hide hcan
      clear hva hvb hcw hac hcan
      go_wp2_with fail
      refine (someWord_any _ n2 _ (HB2.out.ext HXv3.out)).mono ?_
      rintro e z0 ⟨vw, xs, rfl, hS, hxw, hx⟩
      obtain ⟨Aw, cw, rfl, -⟩ := hS.form
      have HW := hide hS
      have HXW := hide hxw
      obtain ⟨p, hp⟩ : ∃ p, p = accB a xs := ⟨_, rfl⟩
      obtain ⟨q, hq⟩ : ∃ q, q = accB ⟨r, f⟩ xs := ⟨_, rfl⟩
      have hpq : p = !q := by rw [hp, hq]; exact HAC.out xs hxw
      have HP := hide hp
      have HQ := hide hq
      have HPQ := hide hpq
      clear hS hxw hp hq hpq
      have HB_a := hide (fun (W : World) (hW : Ext z0 W) => HB_a.out W ((HXv3.out.trans hx).trans hW))
      have HN_a := hide (HN_a.out.ext (HXv3.out.trans hx))
      have HF_a := hide (HF_a.out.ext (HXv3.out.trans hx))
      have HB_b := hide (fun (W : World) (hW : Ext z0 W) => HB_b.out W ((HXv3.out.trans hx).trans hW))
      have HN_b := hide (HN_b.out.ext (HXv3.out.trans hx))
      have HF_b := hide (HF_b.out.ext (HXv3.out.trans hx))
      have HB_c := hide (fun (W : World) (hW : Ext z0 W) => HB_c.out W ((HXv3.out.trans hx).trans hW))
      have HN_c := hide (HN_c.out.ext (HXv3.out.trans hx))
      have HF_c := hide (HF_c.out.ext (HXv3.out.trans hx))
      have HB2 := hide (HB2.out.ext (HXv3.out.trans hx))
      have HT := hide (HT.out.trans (HXv3.out.trans hx))
      clear hx
      go_wp2_with fail
      go_loopw [11] (fun i wr => ∃ j : Nat, i = .int .i64 j ∧ j ≤ 9 ∧ Ext z0 wr) (fun i _ => 9 - (intOf i).toNat)
      case atStart => exact ⟨0, rfl, Nat.zero_le _, Ext.refl _⟩
      case round =>
        obtain ⟨j, rfl, hj, hx⟩ := hrel
        have HXR := hide hx
        clear hx
        by_cases hj8 : j ≤ 8
        · have hjI : (j : Int) ≤ 8 := by omega
          obtain ⟨ca, hca⟩ : ∃ x, x = cwB a j := ⟨_, rfl⟩
          obtain ⟨cb, hcb⟩ : ∃ x, x = cwB ⟨r, f⟩ j := ⟨_, rfl⟩
          obtain ⟨pw, hpw⟩ : ∃ x : Int, x = 6 ^ j := ⟨_, rfl⟩
          have hsum : ca + cb = pw := by rw [hca, hcb, hpw]; exact HCW.out j hj8
          have hpb : 0 ≤ pw ∧ pw ≤ 1679616 := by rw [hpw]; exact ⟨Int.pow_nonneg (by omega), six_pow hj8⟩
          have hww : IntKind.i64.wrap (ca + cb) = pw := by rw [hsum]; exact IntWalk.i64_in _ (by omega)
          have hne : (pw != pw) = false := by simp
          have HCA := hide hca
          have HCB := hide hcb
          have HPW := hide hpw
          clear hca hcb hpw hsum hpb
          obtain ⟨ma0, ma1, mas⟩ := HB_a.out wr HXR.out
          obtain ⟨mb0, mb1, mbs⟩ := HB_b.out wr HXR.out
          go_wp2_with fail
          refine wp_region_ext (by kernel_rfl) (by kernel_rfl) ?_
          iterate 2 (apply quiet_val; (focus rfl); (focus (intro w' hw'; have hk' := hw'.cells; go_simp; all_goals exact rfl)); simp only [Act.put, List.setIfInBounds_toArray, List.set_cons_succ, List.set_cons_zero])
          apply quiet_call; (focus rfl); (focus (intro w' hw'; go_simp; all_goals (first | exact rfl | (apply And.intro <;> exact rfl))))
          · exact fun w' hw' => Ret.quiet ((show Calls Try.prog 20 _ w' (Ret (.int .i64 ca) w') by rw [HCA.out]; exact CountWordsI_any _ _ a j w' (HN_a.out.ext (HXR.out.trans hw')) (HF_a.out.ext (HXR.out.trans hw')) (by unfold I64; omega))) hw'
          (simp only [Act.put, List.setIfInBounds_toArray, List.set_cons_succ, List.set_cons_zero])
          iterate 2 (apply quiet_val; (focus rfl); (focus (intro w' hw'; have hk' := hw'.cells; go_simp; all_goals exact rfl)); simp only [Act.put, List.setIfInBounds_toArray, List.set_cons_succ, List.set_cons_zero])
          apply quiet_call; (focus rfl); (focus (intro w' hw'; go_simp; all_goals (first | exact rfl | (apply And.intro <;> exact rfl))))
          · exact fun w' hw' => Ret.quiet ((show Calls Try.prog 20 _ w' (Ret (.int .i64 cb) w') by rw [HCB.out]; exact CountWordsI_any _ _ ⟨r, f⟩ j w' (HN_b.out.ext (HXR.out.trans hw')) (HF_b.out.ext (HXR.out.trans hw')) (by unfold I64; omega))) hw'
          (simp only [Act.put, List.setIfInBounds_toArray, List.set_cons_succ, List.set_cons_zero])
          iterate 2 (apply quiet_val; (focus rfl); (focus (intro w' hw'; have hk' := hw'.cells; go_simp; all_goals exact rfl)); simp only [Act.put, List.setIfInBounds_toArray, List.set_cons_succ, List.set_cons_zero])
          apply quiet_call; (focus rfl); (focus (intro w' hw'; go_simp; all_goals (first | exact rfl | (apply And.intro <;> exact rfl))))
          · exact fun w' hw' => Ret.quiet ((show Calls Try.prog 21 _ w' (Ret (.int .i64 pw) w') by rw [HPW.out]; exact powerA_any j w' hj8)) hw'
          (simp only [Act.put, List.setIfInBounds_toArray, List.set_cons_succ, List.set_cons_zero])
          (apply quiet_val; (focus rfl); (focus (intro w' hw'; have hk' := hw'.cells; go_simp; all_goals exact rfl)); simp only [Act.put, List.setIfInBounds_toArray, List.set_cons_succ, List.set_cons_zero])
          refine wpQuiet_nil ?_
          intro y1 hy1
          have HXY := hide (HXR.out.trans hy1)
          clear hy1 ma0 ma1 mas mb0 mb1 mbs
          go_wp2_with fail
          go_roundw
          case rel => exact ⟨j + 1, by go_num, by omega, HXY.out⟩
          case measure => simp [intOf]; omega
        · have hjI : ¬ (j : Int) ≤ 8 := by omega
          obtain ⟨mb0, mb1, mbs⟩ := HB_b.out wr HXR.out
          go_wp2_with fail
          refine (ComplementI_any _ _ ⟨r, f⟩ _ (HN_b.out.ext HXR.out) (HF_b.out.ext HXR.out)).mono ?_
          rintro e v41 ⟨ok3, r3, f3, hV3, hS⟩
          obtain ⟨vng, vfg, rfl, hN, hF, hx⟩ := hS.sp hV3.ok
          have HV3 := hide hV3
          obtain ⟨Ang, cng, rfl, -⟩ := hN.form
          obtain ⟨Afg, cfg, rfl, -⟩ := hF.form
          have hNg := hide hN
          have hFg := hide hF
          clear mb0 mb1 mbs
          have HXv41 := hide (HXR.out.trans hx)
          clear hN hF hx
          go_upto_region 15 with fail
          obtain ⟨u41, hu41⟩ : ∃ x, x = v41.alloc (.cells #[.slice Ang r3.length cng, .slice Afg f3.length cfg] 26) := ⟨_, rfl⟩
          obtain ⟨qg, hqg⟩ : ∃ x, x = v41.heap.size := ⟨_, rfl⟩
          have hxa : Ext v41 u41 := by rw [hu41]; exact (Ext.refl v41).alloc _
          have hc0 : u41.cell? ⟨qg, 0, none⟩ = some (.slice Ang r3.length cng) := by rw [hu41, hqg]; go_simp
          have hc1 : u41.cell? ⟨qg, 1, none⟩ = some (.slice Afg f3.length cfg) := by rw [hu41, hqg]; go_simp
          have hcs : qg < u41.heap.size := by rw [hu41, hqg]; simp
          rw [← hu41, ← hqg]
          clear hu41 hqg
          have HB_a := hide (fun (W : World) (hW : Ext u41 W) => HB_a.out W ((HXv41.out.trans hxa).trans hW))
          have HN_a := hide (HN_a.out.ext (HXv41.out.trans hxa))
          have HF_a := hide (HF_a.out.ext (HXv41.out.trans hxa))
          have HB_b := hide (fun (W : World) (hW : Ext u41 W) => HB_b.out W ((HXv41.out.trans hxa).trans hW))
          have HN_b := hide (HN_b.out.ext (HXv41.out.trans hxa))
          have HF_b := hide (HF_b.out.ext (HXv41.out.trans hxa))
          have HB_c := hide (fun (W : World) (hW : Ext u41 W) => HB_c.out W ((HXv41.out.trans hxa).trans hW))
          have HN_c := hide (HN_c.out.ext (HXv41.out.trans hxa))
          have HF_c := hide (HF_c.out.ext (HXv41.out.trans hxa))
          have HW := hide (HW.out.ext (HXv41.out.trans hxa))
          have HB_g := hide (fun (W : World) (hW : Ext u41 W) => (show W.cell? ⟨qg, 0, none⟩ = some (.slice Ang r3.length cng) ∧ W.cell? ⟨qg, 1, none⟩ = some (.slice Afg f3.length cfg) ∧ qg < W.heap.size from ⟨(hW.cells _ _ hcs).trans hc0, (hW.cells _ _ hcs).trans hc1, Nat.lt_of_lt_of_le hcs hW.size⟩))
          have HN_g := hide (hNg.out.ext hxa)
          have HF_g := hide (hFg.out.ext hxa)
          have HT := hide (HT.out.trans (HXv41.out.trans hxa))
          clear hxa hc0 hc1 hcs hNg hFg HXv41
          obtain ⟨ma0, ma1, mas⟩ := HB_a.out u41 (Ext.refl u41)
          go_wp2_with fail
          refine (MinimizeI_any _ _ a _ (HN_a.out.ext (Ext.refl u41)) (HF_a.out.ext (Ext.refl u41))).mono ?_
          rintro e v42 ⟨ok4, r4, f4, hV4, hS⟩
          obtain ⟨vne, vfe, rfl, hN, hF, hx⟩ := hS.sp hV4.ok
          obtain ⟨e1, e2, e3, e4⟩ := HCAN.out _ _ _ _ _ _ HV3.out hV4
          subst e1 e2 e3 e4
          obtain ⟨Ane, cne, rfl, -⟩ := hN.form
          obtain ⟨Afe, cfe, rfl, -⟩ := hF.form
          have hNe := hide hN
          have hFe := hide hF
          clear ma0 ma1 mas
          have HXv42 := hide ((Ext.refl u41).trans hx)
          clear hN hF hx
          go_upto_region 16 with fail
          obtain ⟨u42, hu42⟩ : ∃ x, x = v42.alloc (.cells #[.slice Ane r3.length cne, .slice Afe f3.length cfe] 26) := ⟨_, rfl⟩
          obtain ⟨qe, hqe⟩ : ∃ x, x = v42.heap.size := ⟨_, rfl⟩
          have hxa : Ext v42 u42 := by rw [hu42]; exact (Ext.refl v42).alloc _
          have hc0 : u42.cell? ⟨qe, 0, none⟩ = some (.slice Ane r3.length cne) := by rw [hu42, hqe]; go_simp
          have hc1 : u42.cell? ⟨qe, 1, none⟩ = some (.slice Afe f3.length cfe) := by rw [hu42, hqe]; go_simp
          have hcs : qe < u42.heap.size := by rw [hu42, hqe]; simp
          rw [← hu42, ← hqe]
          clear hu42 hqe
          have HB_a := hide (fun (W : World) (hW : Ext u42 W) => HB_a.out W ((HXv42.out.trans hxa).trans hW))
          have HN_a := hide (HN_a.out.ext (HXv42.out.trans hxa))
          have HF_a := hide (HF_a.out.ext (HXv42.out.trans hxa))
          have HB_b := hide (fun (W : World) (hW : Ext u42 W) => HB_b.out W ((HXv42.out.trans hxa).trans hW))
          have HN_b := hide (HN_b.out.ext (HXv42.out.trans hxa))
          have HF_b := hide (HF_b.out.ext (HXv42.out.trans hxa))
          have HB_c := hide (fun (W : World) (hW : Ext u42 W) => HB_c.out W ((HXv42.out.trans hxa).trans hW))
          have HN_c := hide (HN_c.out.ext (HXv42.out.trans hxa))
          have HF_c := hide (HF_c.out.ext (HXv42.out.trans hxa))
          have HB_g := hide (fun (W : World) (hW : Ext u42 W) => HB_g.out W ((HXv42.out.trans hxa).trans hW))
          have HN_g := hide (HN_g.out.ext (HXv42.out.trans hxa))
          have HF_g := hide (HF_g.out.ext (HXv42.out.trans hxa))
          have HW := hide (HW.out.ext (HXv42.out.trans hxa))
          have HB_e := hide (fun (W : World) (hW : Ext u42 W) => (show W.cell? ⟨qe, 0, none⟩ = some (.slice Ane r3.length cne) ∧ W.cell? ⟨qe, 1, none⟩ = some (.slice Afe f3.length cfe) ∧ qe < W.heap.size from ⟨(hW.cells _ _ hcs).trans hc0, (hW.cells _ _ hcs).trans hc1, Nat.lt_of_lt_of_le hcs hW.size⟩))
          have HN_e := hide (hNe.out.ext hxa)
          have HF_e := hide (hFe.out.ext hxa)
          have HT := hide (HT.out.trans (HXv42.out.trans hxa))
          clear hxa hc0 hc1 hcs hNe hFe HXv42
          obtain rfl : p = !q := HPQ.out
          obtain ⟨ma0, ma1, mas⟩ := HB_a.out u42 (Ext.refl u42)
          obtain ⟨mb0, mb1, mbs⟩ := HB_b.out u42 (Ext.refl u42)
          obtain ⟨mg0, mg1, mgs⟩ := HB_g.out u42 (Ext.refl u42)
          obtain ⟨me0, me1, mes⟩ := HB_e.out u42 (Ext.refl u42)
          have HCA := hide (fun (W : World) (hW : Ext u42 W) => (show Calls Try.prog 16 #[.agg #[.slice Ana a.next.length cna, .slice Afa a.final.length cfa], .slice Aw xs.length cw] W (Ret (.bool (!q)) W) by rw [HP.out]; exact AutomatonAcceptsI_any _ _ _ a xs W (HN_a.out.ext hW) (HF_a.out.ext hW) (HW.out.ext hW)))
          have HCB := hide (fun (W : World) (hW : Ext u42 W) => (show Calls Try.prog 16 #[.agg #[.slice Anb r.length cnb, .slice Afb f.length cfb], .slice Aw xs.length cw] W (Ret (.bool q) W) by rw [HQ.out]; exact AutomatonAcceptsI_any _ _ _ ⟨r, f⟩ xs W (HN_b.out.ext hW) (HF_b.out.ext hW) (HW.out.ext hW)))
          have HEQ := hide (fun (W : World) (hW : Ext u42 W) => (show Calls Try.prog 12 #[.agg #[.slice Ang r3.length cng, .slice Afg f3.length cfg], .agg #[.slice Ane r3.length cne, .slice Afe f3.length cfe]] W (Ret (.bool true) W) by rw [← eqAu_self r3 f3]; exact equalAutomata_any _ _ _ _ r3 r3 f3 f3 W (HN_g.out.ext hW) (HF_g.out.ext hW) (HN_e.out.ext hW) (HF_e.out.ext hW)))
          cases q with
          | false =>
            have HCA := hide (fun (W : World) (hW : Ext u42 W) => (show Calls Try.prog 16 #[.agg #[.slice Ana a.next.length cna, .slice Afa a.final.length cfa], .slice Aw xs.length cw] W (Ret (.bool true) W) from HCA.out W hW))
            go_wp2_with fail
            refine wp_region_ext (by kernel_rfl) (by kernel_rfl) ?_
            iterate 2 (apply quiet_val; (focus rfl); (focus (intro w' hw'; have hk' := hw'.cells; go_simp; all_goals exact rfl)); simp only [Act.put, List.setIfInBounds_toArray, List.set_cons_succ, List.set_cons_zero])
            apply quiet_call; (focus rfl); (focus (intro w' hw'; go_simp; all_goals (first | exact rfl | (apply And.intro <;> exact rfl))))
            · exact fun w' hw' => Ret.quiet (HCA.out w' hw') hw'
            (simp only [Act.put, List.setIfInBounds_toArray, List.set_cons_succ, List.set_cons_zero])
            iterate 2 (apply quiet_val; (focus rfl); (focus (intro w' hw'; have hk' := hw'.cells; go_simp; all_goals exact rfl)); simp only [Act.put, List.setIfInBounds_toArray, List.set_cons_succ, List.set_cons_zero])
            apply quiet_call; (focus rfl); (focus (intro w' hw'; go_simp; all_goals (first | exact rfl | (apply And.intro <;> exact rfl))))
            · exact fun w' hw' => Ret.quiet (HCB.out w' hw') hw'
            (simp only [Act.put, List.setIfInBounds_toArray, List.set_cons_succ, List.set_cons_zero])
            iterate 2 (apply quiet_val; (focus rfl); (focus (intro w' hw'; have hk' := hw'.cells; go_simp; all_goals exact rfl)); simp only [Act.put, List.setIfInBounds_toArray, List.set_cons_succ, List.set_cons_zero])
            (go_big_quiet_want; apply quietK_val; (focus (intro w' hw'; have hk' := hw'.cells; go_simp; all_goals exact rfl)); simp only [Act.put, List.setIfInBounds_toArray, List.set_cons_succ, List.set_cons_zero]; go_big_quiet_on)
            iterate 2 (apply quiet_val; (focus rfl); (focus (intro w' hw'; have hk' := hw'.cells; go_simp; all_goals exact rfl)); simp only [Act.put, List.setIfInBounds_toArray, List.set_cons_succ, List.set_cons_zero])
            (go_big_quiet_want; apply quietK_val; (focus (intro w' hw'; have hk' := hw'.cells; go_simp; all_goals exact rfl)); simp only [Act.put, List.setIfInBounds_toArray, List.set_cons_succ, List.set_cons_zero]; go_big_quiet_on)
            iterate 2 (apply quiet_val; (focus rfl); (focus (intro w' hw'; have hk' := hw'.cells; go_simp; all_goals exact rfl)); simp only [Act.put, List.setIfInBounds_toArray, List.set_cons_succ, List.set_cons_zero])
            iterate 2 (go_big_quiet_want; apply quietK_val; (focus (intro w' hw'; have hk' := hw'.cells; go_simp; all_goals exact rfl)); simp only [Act.put, List.setIfInBounds_toArray, List.set_cons_succ, List.set_cons_zero]; go_big_quiet_on)
            go_big_quiet_want; apply quietK_call; (focus (intro w' hw'; go_simp; all_goals (first | exact rfl | (apply And.intro <;> exact rfl))))
            · exact fun w' hw' => Ret.quiet (HEQ.out w' hw') hw'
            (simp only [Act.put, List.setIfInBounds_toArray, List.set_cons_succ, List.set_cons_zero]; go_big_quiet_on)
            iterate 2 (apply quiet_val; (focus rfl); (focus (intro w' hw'; have hk' := hw'.cells; go_simp; all_goals exact rfl)); simp only [Act.put, List.setIfInBounds_toArray, List.set_cons_succ, List.set_cons_zero])
            refine wpQuiet_nil ?_
            intro y1 hy1
            have HXY := hide (HT.out.trans hy1)
            clear hy1
            go_wp2_with fail
            go_ret
            exact Ret.mk rfl HXY.out
          | true =>
            have HCA := hide (fun (W : World) (hW : Ext u42 W) => (show Calls Try.prog 16 #[.agg #[.slice Ana a.next.length cna, .slice Afa a.final.length cfa], .slice Aw xs.length cw] W (Ret (.bool false) W) from HCA.out W hW))
            go_wp2_with fail
            refine wp_region_ext (by kernel_rfl) (by kernel_rfl) ?_
            iterate 2 (apply quiet_val; (focus rfl); (focus (intro w' hw'; have hk' := hw'.cells; go_simp; all_goals exact rfl)); simp only [Act.put, List.setIfInBounds_toArray, List.set_cons_succ, List.set_cons_zero])
            apply quiet_call; (focus rfl); (focus (intro w' hw'; go_simp; all_goals (first | exact rfl | (apply And.intro <;> exact rfl))))
            · exact fun w' hw' => Ret.quiet (HCA.out w' hw') hw'
            (simp only [Act.put, List.setIfInBounds_toArray, List.set_cons_succ, List.set_cons_zero])
            iterate 2 (apply quiet_val; (focus rfl); (focus (intro w' hw'; have hk' := hw'.cells; go_simp; all_goals exact rfl)); simp only [Act.put, List.setIfInBounds_toArray, List.set_cons_succ, List.set_cons_zero])
            apply quiet_call; (focus rfl); (focus (intro w' hw'; go_simp; all_goals (first | exact rfl | (apply And.intro <;> exact rfl))))
            · exact fun w' hw' => Ret.quiet (HCB.out w' hw') hw'
            (simp only [Act.put, List.setIfInBounds_toArray, List.set_cons_succ, List.set_cons_zero])
            iterate 2 (apply quiet_val; (focus rfl); (focus (intro w' hw'; have hk' := hw'.cells; go_simp; all_goals exact rfl)); simp only [Act.put, List.setIfInBounds_toArray, List.set_cons_succ, List.set_cons_zero])
            (go_big_quiet_want; apply quietK_val; (focus (intro w' hw'; have hk' := hw'.cells; go_simp; all_goals exact rfl)); simp only [Act.put, List.setIfInBounds_toArray, List.set_cons_succ, List.set_cons_zero]; go_big_quiet_on)
            iterate 2 (apply quiet_val; (focus rfl); (focus (intro w' hw'; have hk' := hw'.cells; go_simp; all_goals exact rfl)); simp only [Act.put, List.setIfInBounds_toArray, List.set_cons_succ, List.set_cons_zero])
            (go_big_quiet_want; apply quietK_val; (focus (intro w' hw'; have hk' := hw'.cells; go_simp; all_goals exact rfl)); simp only [Act.put, List.setIfInBounds_toArray, List.set_cons_succ, List.set_cons_zero]; go_big_quiet_on)
            iterate 2 (apply quiet_val; (focus rfl); (focus (intro w' hw'; have hk' := hw'.cells; go_simp; all_goals exact rfl)); simp only [Act.put, List.setIfInBounds_toArray, List.set_cons_succ, List.set_cons_zero])
            iterate 2 (go_big_quiet_want; apply quietK_val; (focus (intro w' hw'; have hk' := hw'.cells; go_simp; all_goals exact rfl)); simp only [Act.put, List.setIfInBounds_toArray, List.set_cons_succ, List.set_cons_zero]; go_big_quiet_on)
            go_big_quiet_want; apply quietK_call; (focus (intro w' hw'; go_simp; all_goals (first | exact rfl | (apply And.intro <;> exact rfl))))
            · exact fun w' hw' => Ret.quiet (HEQ.out w' hw') hw'
            (simp only [Act.put, List.setIfInBounds_toArray, List.set_cons_succ, List.set_cons_zero]; go_big_quiet_on)
            iterate 2 (apply quiet_val; (focus rfl); (focus (intro w' hw'; have hk' := hw'.cells; go_simp; all_goals exact rfl)); simp only [Act.put, List.setIfInBounds_toArray, List.set_cons_succ, List.set_cons_zero])
            refine wpQuiet_nil ?_
            intro y1 hy1
            have HXY := hide (HT.out.trans hy1)
            clear hy1
            go_wp2_with fail
            go_ret
            exact Ret.mk rfl HXY.out
end Go.Proofs.Ytdiedghaoleblaa
/- FnComplement returns true for all bytes. No condition. -/
namespace Go.Proofs.Ytdiedghaoleblaa
open Go.ChangeShapes Go.WideShapes Go.ChangeAt Go.RowKit

theorem Try.ownFnComplement : ownKnob Try.prog.godebug = none := by kernel_rfl
theorem Try.laidOutFnComplement : laidOutB Try.prog = true := by kernel_rfl

set_option maxRecDepth 100000 in
theorem fnComplement_lifted (os : Os) (started : os.Started) (H : Type) (enc : TypeId × Value → H) :
    ReturnsInHanded {} Try.checked os 4 .any (Rows.fnComplementSpec.pre6 enc Try.prog Try.f4 Rows.fnComplementRow.domain false) (Rows.fnComplementSpec.post enc Try.prog Try.f4 false true false false) := by
  refine returnsInHanded_of_change_sized (C := Try.checked) Try.ownFnComplement started (by kernel_rfl) Try.func4
    (ChangeSpec.witness6 (enc := enc) (C := Try.checked) false ⟨#[], #[.slice none 0 0, .slice none 0 0], []⟩ 8 (by kernel_rfl) (by kernel_rfl) (by kernel_rfl) (by kernel_rfl)) ?_
  intro W base args ds gs before hval0 hW hcnd hsz0 _
  have hval : ∀ (j : Nat) t v, Try.f4.params[j]? = some t → args[j]? = some v → Value.okWide Try.prog W .any base t v := hval0
  have hsz : (DataW.weightsEach Try.prog (Try.f4.params.toList ++ Rows.fnComplementSpec.plain.varTypes Try.prog) (ds ++ gs)).all (· ≤ reachBytes) = true := hsz0
  have hW' := hW
  obtain ⟨p, q, hA0, hV, rfl, hfz, hnd⟩ := hW
  have hA : DataW.TrodAll enc Try.prog W 0 (fun _ => true) true Try.f4.params.toList args.toList ds p := hA0
  rw [Try.params4] at hA hval hsz
  obtain ⟨v0, vs0, d0, ds0, p0, q0, hargs, rfl, rfl, h0, r0⟩ := trodAll_cons hA
  obtain ⟨v1, vs1, d1, ds1, p1, q1, rfl, rfl, rfl, h1, r1⟩ := trodAll_cons r0
  obtain ⟨rfl, rfl, rfl⟩ := trodAll_nil r1
  obtain rfl : args = #[v0, v1] := by cases args; simp_all
  obtain ⟨rfl, rfl⟩ := trodVars_none hV
  have k0 := h0
  have lt0 : ∀ x ∈ p0, x.block < W.heap.size := by obtain ⟨m, hm⟩ := k0; exact DataW.trod_lt m _ _ _ hm
  obtain ⟨x0, hB0, hn0⟩ := bytes_of_trod Try.underlying22 Try.underlying5 (by kernel_rfl) (by kernel_rfl) (hval 0 22 v0 rfl rfl) h0
    (fun elems spare hd => sized_slice hsz (j := 0) (t := 22) (e := 5) rfl (by simp [hd]) Try.underlying22)
  have k1 := h1
  have lt1 : ∀ x ∈ p1, x.block < W.heap.size := by obtain ⟨m, hm⟩ := k1; exact DataW.trod_lt m _ _ _ hm
  obtain ⟨x1, hB1, hn1⟩ := bytes_of_trod Try.underlying22 Try.underlying5 (by kernel_rfl) (by kernel_rfl) (hval 1 22 v1 rfl rfl) h1
    (fun elems spare hd => sized_slice hsz (j := 1) (t := 22) (e := 5) rfl (by simp [hd]) Try.underlying22)
  clear hA0 hval0 hsz0
  refine (lawComplement v0 v1 x0 x1 W hB0 hn0 hB1 hn1).mono fun e W' ⟨he, bel⟩ => ?_
  subst he
  exact ⟨_, rfl, _, _, _, [], _, [], hW', trodAll_mk1 (shut_bool Try.underlying4 _), (trodAll_cons_mk (Below.trod Try.laidOutFnComplement (by kernel_rfl) (of_decide_eq_true (by kernel_rfl)) k0 bel lt0) (trodAll_cons_mk (Below.trod Try.laidOutFnComplement (by kernel_rfl) (of_decide_eq_true (by kernel_rfl)) k1 bel lt1) trodAll_mk0)), rfl, Below.frame bel _, fun h => by cases h⟩

theorem fnComplement_holds : Rows.FnComplementSaid :=
  OpenClaim.holds_of_wide 4 Try.f4 rfl rfl rfl rfl rfl rfl rfl ⟨rfl, rfl, rfl, rfl, rfl⟩ rfl rfl rfl rfl rfl (by kernel_rfl) Try.func4 (by kernel_rfl)
    (of_decide_eq_true (by kernel_rfl)) (by unfold Func.isWrapper; first | (rw [if_pos (by decide +kernel)]; kernel_rfl) | (rw [if_neg (by decide +kernel)]; exact ⟨rfl, rfl⟩))
    (fun os started H enc _ => fnComplement_lifted os started H enc)
#print axioms fnComplement_holds
end Go.Proofs.Ytdiedghaoleblaa
