/- The walk of the law FnMinimalForm: it returns true. Printed by genlawsd.py. -/
import Derived.Test.YtdiedghaoleblaaAutL
import Derived.Test.YtdiedghaoleblaaAuI
import Derived.Test.YtdiedghaoleblaaMcA
import Derived.Test.YtdiedghaoleblaaQ21
import Derived.Test.YtdiedghaoleblaaOpnA
import Derived.ShutString
import Derived.ChangeOld
namespace Go.Proofs.Ytdiedghaoleblaa
open Go.RowKit
attribute [local go_sem] evalOf

set_option maxRecDepth 100000 in
set_option maxHeartbeats 16000000 in
theorem lawMinimalForm (v : Value) (n : Nat) (w : World) (hB : SBytes w v n) (_hn : n ≤ 140737488351232) :
    Calls Try.prog 6 #[v] w (Ret (.bool true) w) := by
  have HB := hide hB
  obtain ⟨A, c, rfl, -⟩ := hB
  by_cases hl : (1048576 : Int) < n
  · go_enter Try.func6, Try.ntmps6
    go_wp2
    go_ret
    exact Ret.mk rfl (Ext.refl _)
  · go_enter Try.func6, Try.ntmps6
    go_wp2_with fail
    refine (DrawShortestDifference_any _ n _ HB.out).mono ?_
    rintro e wd ⟨vna, vfa, a, vnb, vfb, b, rfl, hN, hF, hN2, hF2, hx⟩
    obtain ⟨Ana, cna, rfl, -⟩ := hN.form
    obtain ⟨Afa, cfa, rfl, -⟩ := hF.form
    obtain ⟨Anb, cnb, rfl, -⟩ := hN2.form
    obtain ⟨Afb, cfb, rfl, -⟩ := hF2.form
    have hNa := hide hN
    have hFa := hide hF
    have hNb := hide hN2
    have hFb := hide hF2
    have HXd := hide hx
    clear hN hF hN2 hF2 hx
    go_upto_region 4 with fail
    obtain ⟨u0, hu0⟩ : ∃ x, x = (wd.alloc (.cells #[.slice Ana a.next.length cna, .slice Afa a.final.length cfa] 26)).alloc (.cells #[.slice Anb b.next.length cnb, .slice Afb b.final.length cfb] 26) := ⟨_, rfl⟩
    obtain ⟨qa, hqa⟩ : ∃ x, x = wd.heap.size := ⟨_, rfl⟩
    obtain ⟨qb, hqb⟩ : ∃ x, x = wd.heap.size + 1 := ⟨_, rfl⟩
    have hxa : Ext wd u0 := by rw [hu0]; exact ((Ext.refl wd).alloc _).alloc _
    have hc0 : u0.cell? ⟨qa, 0, none⟩ = some (.slice Ana a.next.length cna) := by rw [hu0, hqa]; go_simp
    have hc1 : u0.cell? ⟨qa, 1, none⟩ = some (.slice Afa a.final.length cfa) := by rw [hu0, hqa]; go_simp
    have hcs : qa < u0.heap.size := by rw [hu0, hqa]; simp; omega
    have hd0 : u0.cell? ⟨qb, 0, none⟩ = some (.slice Anb b.next.length cnb) := by rw [hu0, hqb]; go_simp
    have hd1 : u0.cell? ⟨qb, 1, none⟩ = some (.slice Afb b.final.length cfb) := by rw [hu0, hqb]; go_simp
    have hds : qb < u0.heap.size := by rw [hu0, hqb]; simp
    rw [← hu0]
    try rw [← hqb]
    rw [← hqa]
    clear hu0 hqa hqb
    have HB_a := hide (fun (W : World) (hW : Ext u0 W) => (show W.cell? ⟨qa, 0, none⟩ = some (.slice Ana a.next.length cna) ∧ W.cell? ⟨qa, 1, none⟩ = some (.slice Afa a.final.length cfa) ∧ qa < W.heap.size from ⟨(hW.cells _ _ hcs).trans hc0, (hW.cells _ _ hcs).trans hc1, Nat.lt_of_lt_of_le hcs hW.size⟩))
    have HN_a := hide (hNa.out.ext hxa)
    have HF_a := hide (hFa.out.ext hxa)
    have HT := hide (HXd.out.trans hxa)
    have HB_b := hide (fun (W : World) (hW : Ext u0 W) => (show W.cell? ⟨qb, 0, none⟩ = some (.slice Anb b.next.length cnb) ∧ W.cell? ⟨qb, 1, none⟩ = some (.slice Afb b.final.length cfb) ∧ qb < W.heap.size from ⟨(hW.cells _ _ hds).trans hd0, (hW.cells _ _ hds).trans hd1, Nat.lt_of_lt_of_le hds hW.size⟩))
    have HN_b := hide (hNb.out.ext hxa)
    have HF_b := hide (hFb.out.ext hxa)
    clear hxa hc0 hc1 hcs hd0 hd1 hds hNa hFa hNb hFb
    obtain ⟨ma0, ma1, mas⟩ := HB_a.out u0 (Ext.refl u0)
    obtain ⟨mb0, mb1, mbs⟩ := HB_b.out u0 (Ext.refl u0)
    go_wp2_with fail
    refine (ShortestDifferenceI_any _ _ _ _ a b _ (HN_a.out.ext (Ext.refl u0)) (HF_a.out.ext (Ext.refl u0)) (HN_b.out.ext (Ext.refl u0)) (HF_b.out.ext (Ext.refl u0))).mono ?_
    rintro e v1 ⟨ok, ws, vwp, hX, rfl, hR⟩
    obtain ⟨Ap, cp, rfl⟩ := hR.formS
    have hS := hR.intsS (SdX.i64 hX)
    have hx := hR.extS
    clear hR
    clear ma0 ma1 mas mb0 mb1 mbs
    have HV := hide hX
    have HWp := hide hS
    have HB_a := hide (fun (W : World) (hW : Ext v1 W) => HB_a.out W (((Ext.refl u0).trans hx).trans hW))
    have HN_a := hide (HN_a.out.ext ((Ext.refl u0).trans hx))
    have HF_a := hide (HF_a.out.ext ((Ext.refl u0).trans hx))
    have HB_b := hide (fun (W : World) (hW : Ext v1 W) => HB_b.out W (((Ext.refl u0).trans hx).trans hW))
    have HN_b := hide (HN_b.out.ext ((Ext.refl u0).trans hx))
    have HF_b := hide (HF_b.out.ext ((Ext.refl u0).trans hx))
    have HT := hide (HT.out.trans ((Ext.refl u0).trans hx))
    clear hx hS
    obtain ⟨ma0, ma1, mas⟩ := HB_a.out v1 (Ext.refl v1)
    obtain ⟨mb0, mb1, mbs⟩ := HB_b.out v1 (Ext.refl v1)
    go_wp2_with fail
    refine (ShortestDifferenceS_any _ _ _ _ a b _ (HN_a.out.ext (Ext.refl v1)) (HF_a.out.ext (Ext.refl v1)) (HN_b.out.ext (Ext.refl v1)) (HF_b.out.ext (Ext.refl v1))).mono ?_
    rintro e v2 ⟨ok2, ws2, Aq, cq, hX, rfl, hS, hx⟩
    clear ma0 ma1 mas mb0 mb1 mbs
    obtain ⟨e1, e2⟩ := HV.out.uniq hX
    subst e1 e2
    have HWq := hide hS
    have HB_a := hide (fun (W : World) (hW : Ext v2 W) => HB_a.out W (((Ext.refl v1).trans hx).trans hW))
    have HN_a := hide (HN_a.out.ext ((Ext.refl v1).trans hx))
    have HF_a := hide (HF_a.out.ext ((Ext.refl v1).trans hx))
    have HB_b := hide (fun (W : World) (hW : Ext v2 W) => HB_b.out W (((Ext.refl v1).trans hx).trans hW))
    have HN_b := hide (HN_b.out.ext ((Ext.refl v1).trans hx))
    have HF_b := hide (HF_b.out.ext ((Ext.refl v1).trans hx))
    have HWp := hide (HWp.out.ext ((Ext.refl v1).trans hx))
    have HT := hide (HT.out.trans ((Ext.refl v1).trans hx))
    clear hx hS
    have hbb : (ok != ok) = false := by simp
    have hbe : (ok == ok) = true := by simp
    obtain ⟨ma0, ma1, mas⟩ := HB_a.out v2 (Ext.refl v2)
    go_wp2_with fail
    refine (equalIntsA_any _ _ ws ws _ (HWp.out.ext (Ext.refl v2)) (HWq.out.ext (Ext.refl v2))).mono ?_
    rw [decide_eq_true (rfl : ws = ws)]
    rintro e v3 ⟨rfl, hx⟩
    clear ma0 ma1 mas
    have HXv3 := hide ((Ext.refl v2).trans hx)
    clear hx
    obtain ⟨ma0, ma1, mas⟩ := HB_a.out v3 HXv3.out
    go_wp2_with fail
    refine (ValidAutomatonI_any _ _ a _ (HN_a.out.ext HXv3.out) (HF_a.out.ext HXv3.out)).mono ?_
    rintro e v4 ⟨rfl, hx⟩
    clear ma0 ma1 mas
    have HXv4 := hide (HXv3.out.trans hx)
    clear hx
    cases hva : vAut a with
    | false =>
      clear hva
      go_wp2_with fail
      refine (equalIntsA_any _ _ ws ws _ (HWp.out.ext HXv4.out) (HWq.out.ext HXv4.out)).mono ?_
      rw [decide_eq_true (rfl : ws = ws)]
      rintro e v45 ⟨rfl, hx⟩
      have HXv45 := hide (HXv4.out.trans hx)
      clear hx
      go_wp2_with fail
      go_ret
      exact Ret.mk rfl (HT.out.trans HXv45.out)
    | true =>
      obtain ⟨mb0, mb1, mbs⟩ := HB_b.out v4 HXv4.out
      go_wp2_with fail
      refine (ValidAutomatonI_any _ _ b _ (HN_b.out.ext HXv4.out) (HF_b.out.ext HXv4.out)).mono ?_
      rintro e v21 ⟨rfl, hx⟩
      clear mb0 mb1 mbs
      have HXv21 := hide (HXv4.out.trans hx)
      clear hx
      cases hvb : vAut b with
      | false =>
        clear hva hvb
        go_wp2_with fail
        refine (equalIntsA_any _ _ ws ws _ (HWp.out.ext HXv21.out) (HWq.out.ext HXv21.out)).mono ?_
        rw [decide_eq_true (rfl : ws = ws)]
        rintro e v62 ⟨rfl, hx⟩
        have HXv62 := hide (HXv21.out.trans hx)
        clear hx
        go_wp2_with fail
        go_ret
        exact Ret.mk rfl (HT.out.trans HXv62.out)
      | true =>
        have HMF := hide (fun (o1 o2 : Bool) (r1 r2 : List (List Int)) (f1 f2 : List Int) (h1 : MinV a o1 r1 f1) (h2 : MinV b o2 r2 f2) => mf_all hva hvb HV.out h1 h2)
        clear hva hvb
        obtain ⟨ma0, ma1, mas⟩ := HB_a.out v21 HXv21.out
        go_wp2_with fail
        refine (MinimizeI_any _ _ a _ (HN_a.out.ext HXv21.out) (HF_a.out.ext HXv21.out)).mono ?_
        rintro e v41 ⟨o1, r1, f1, hV1, hS⟩
        obtain ⟨vnx, vfx, rfl, hN, hF, hx⟩ := hS.sp hV1.ok
        have HV1 := hide hV1
        obtain ⟨Anx, cnx, rfl, -⟩ := hN.form
        obtain ⟨Afx, cfx, rfl, -⟩ := hF.form
        have hNx := hide hN
        have hFx := hide hF
        clear ma0 ma1 mas
        have HXv41 := hide (HXv21.out.trans hx)
        clear hN hF hx
        go_upto_region 9 with fail
        obtain ⟨u41, hu41⟩ : ∃ x, x = v41.alloc (.cells #[.slice Anx r1.length cnx, .slice Afx f1.length cfx] 26) := ⟨_, rfl⟩
        obtain ⟨qx, hqx⟩ : ∃ x, x = v41.heap.size := ⟨_, rfl⟩
        have hxa : Ext v41 u41 := by rw [hu41]; exact (Ext.refl v41).alloc _
        have hc0 : u41.cell? ⟨qx, 0, none⟩ = some (.slice Anx r1.length cnx) := by rw [hu41, hqx]; go_simp
        have hc1 : u41.cell? ⟨qx, 1, none⟩ = some (.slice Afx f1.length cfx) := by rw [hu41, hqx]; go_simp
        have hcs : qx < u41.heap.size := by rw [hu41, hqx]; simp
        rw [← hu41, ← hqx]
        clear hu41 hqx
        have HB_a := hide (fun (W : World) (hW : Ext u41 W) => HB_a.out W ((HXv41.out.trans hxa).trans hW))
        have HN_a := hide (HN_a.out.ext (HXv41.out.trans hxa))
        have HF_a := hide (HF_a.out.ext (HXv41.out.trans hxa))
        have HB_b := hide (fun (W : World) (hW : Ext u41 W) => HB_b.out W ((HXv41.out.trans hxa).trans hW))
        have HN_b := hide (HN_b.out.ext (HXv41.out.trans hxa))
        have HF_b := hide (HF_b.out.ext (HXv41.out.trans hxa))
        have HWp := hide (HWp.out.ext (HXv41.out.trans hxa))
        have HWq := hide (HWq.out.ext (HXv41.out.trans hxa))
        have HB_x := hide (fun (W : World) (hW : Ext u41 W) => (show W.cell? ⟨qx, 0, none⟩ = some (.slice Anx r1.length cnx) ∧ W.cell? ⟨qx, 1, none⟩ = some (.slice Afx f1.length cfx) ∧ qx < W.heap.size from ⟨(hW.cells _ _ hcs).trans hc0, (hW.cells _ _ hcs).trans hc1, Nat.lt_of_lt_of_le hcs hW.size⟩))
        have HN_x := hide (hNx.out.ext hxa)
        have HF_x := hide (hFx.out.ext hxa)
        have HT := hide (HT.out.trans (HXv41.out.trans hxa))
        clear hxa hc0 hc1 hcs hNx hFx HXv41
        obtain ⟨mb0, mb1, mbs⟩ := HB_b.out u41 (Ext.refl u41)
        go_wp2_with fail
        refine (MinimizeI_any _ _ b _ (HN_b.out.ext (Ext.refl u41)) (HF_b.out.ext (Ext.refl u41))).mono ?_
        rintro e v42 ⟨o2, r2, f2, hV2, hS⟩
        obtain ⟨vny, vfy, rfl, hN, hF, hx⟩ := hS.sp hV2.ok
        obtain ⟨e1, e2, e3⟩ := HMF.out _ _ _ _ _ _ HV1.out hV2
        subst e1 e2
        have HEQ := hide e3
        obtain ⟨Any, cny, rfl, -⟩ := hN.form
        obtain ⟨Afy, cfy, rfl, -⟩ := hF.form
        have hNy := hide hN
        have hFy := hide hF
        clear mb0 mb1 mbs
        have HXv42 := hide ((Ext.refl u41).trans hx)
        clear hN hF hx
        go_upto_region 10 with fail
        obtain ⟨u42, hu42⟩ : ∃ x, x = v42.alloc (.cells #[.slice Any r2.length cny, .slice Afy f2.length cfy] 26) := ⟨_, rfl⟩
        obtain ⟨qy, hqy⟩ : ∃ x, x = v42.heap.size := ⟨_, rfl⟩
        have hxa : Ext v42 u42 := by rw [hu42]; exact (Ext.refl v42).alloc _
        have hc0 : u42.cell? ⟨qy, 0, none⟩ = some (.slice Any r2.length cny) := by rw [hu42, hqy]; go_simp
        have hc1 : u42.cell? ⟨qy, 1, none⟩ = some (.slice Afy f2.length cfy) := by rw [hu42, hqy]; go_simp
        have hcs : qy < u42.heap.size := by rw [hu42, hqy]; simp
        rw [← hu42, ← hqy]
        clear hu42 hqy
        have HB_a := hide (fun (W : World) (hW : Ext u42 W) => HB_a.out W ((HXv42.out.trans hxa).trans hW))
        have HN_a := hide (HN_a.out.ext (HXv42.out.trans hxa))
        have HF_a := hide (HF_a.out.ext (HXv42.out.trans hxa))
        have HB_b := hide (fun (W : World) (hW : Ext u42 W) => HB_b.out W ((HXv42.out.trans hxa).trans hW))
        have HN_b := hide (HN_b.out.ext (HXv42.out.trans hxa))
        have HF_b := hide (HF_b.out.ext (HXv42.out.trans hxa))
        have HB_x := hide (fun (W : World) (hW : Ext u42 W) => HB_x.out W ((HXv42.out.trans hxa).trans hW))
        have HN_x := hide (HN_x.out.ext (HXv42.out.trans hxa))
        have HF_x := hide (HF_x.out.ext (HXv42.out.trans hxa))
        have HWp := hide (HWp.out.ext (HXv42.out.trans hxa))
        have HWq := hide (HWq.out.ext (HXv42.out.trans hxa))
        have HB_y := hide (fun (W : World) (hW : Ext u42 W) => (show W.cell? ⟨qy, 0, none⟩ = some (.slice Any r2.length cny) ∧ W.cell? ⟨qy, 1, none⟩ = some (.slice Afy f2.length cfy) ∧ qy < W.heap.size from ⟨(hW.cells _ _ hcs).trans hc0, (hW.cells _ _ hcs).trans hc1, Nat.lt_of_lt_of_le hcs hW.size⟩))
        have HN_y := hide (hNy.out.ext hxa)
        have HF_y := hide (hFy.out.ext hxa)
        have HT := hide (HT.out.trans (HXv42.out.trans hxa))
        clear hxa hc0 hc1 hcs hNy hFy HXv42
        obtain ⟨mx0, mx1, mxs⟩ := HB_x.out u42 (Ext.refl u42)
        obtain ⟨my0, my1, mys⟩ := HB_y.out u42 (Ext.refl u42)
        have HCE := hide (fun (W : World) (hW : Ext u42 W) => (show Calls Try.prog 12 #[.agg #[.slice Anx r1.length cnx, .slice Afx f1.length cfx], .agg #[.slice Any r2.length cny, .slice Afy f2.length cfy]] W (Ret (.bool (!ok)) W) by rw [← HEQ.out]; exact equalAutomata_any _ _ _ _ r1 r2 f1 f2 W (HN_x.out.ext hW) (HF_x.out.ext hW) (HN_y.out.ext hW) (HF_y.out.ext hW)))
        clear HEQ HMF HV HV1
        have hnn : (ok != !ok) = true := by cases ok <;> rfl
        go_wp2_with fail
        refine (HCE.out _ (Ext.refl _)).mono ?_
        rintro e y9 ⟨rfl, hx⟩
        have HXY := hide (HT.out.trans hx)
        clear hx
        cases ok with
        | false =>
          go_wp2_with fail
          go_ret
          exact Ret.mk rfl HXY.out
        | true =>
          go_wp2_with fail
          go_ret
          exact Ret.mk rfl HXY.out
end Go.Proofs.Ytdiedghaoleblaa
/- The law FnMinimalForm holds: the minimal automaton is a normal form. No condition. -/
namespace Go.Proofs.Ytdiedghaoleblaa
open Go.ChangeShapes Go.WideShapes Go.ChangeAt Go.RowKit

theorem Try.ownFnMinimalForm : ownKnob Try.prog.godebug = none := by kernel_rfl
theorem Try.laidOutFnMinimalForm : laidOutB Try.prog = true := by kernel_rfl

set_option maxRecDepth 100000 in
theorem fnMinimalForm_lifted (os : Os) (started : os.Started) (H : Type) (enc : TypeId × Value → H) :
    ReturnsInHanded {} Try.checked os 6 .any (Rows.fnMinimalFormSpec.pre6 enc Try.prog Try.f6 Rows.fnMinimalFormRow.domain false) (Rows.fnMinimalFormSpec.post enc Try.prog Try.f6 false true false false) := by
  refine returnsInHanded_of_change_sized (C := Try.checked) Try.ownFnMinimalForm started (by kernel_rfl) Try.func6
    (ChangeSpec.witness6 (enc := enc) (C := Try.checked) false ⟨#[], #[.slice none 0 0], []⟩ 8 (by kernel_rfl) (by kernel_rfl) (by kernel_rfl) (by kernel_rfl)) ?_
  intro W base args ds gs before hval0 hW hcnd hsz0 _
  have hval : ∀ (j : Nat) t v, Try.f6.params[j]? = some t → args[j]? = some v → Value.okWide Try.prog W .any base t v := hval0
  have hsz : (DataW.weightsEach Try.prog (Try.f6.params.toList ++ Rows.fnMinimalFormSpec.plain.varTypes Try.prog) (ds ++ gs)).all (· ≤ reachBytes) = true := hsz0
  have hW' := hW
  obtain ⟨p, q, hA0, hV, rfl, hfz, hnd⟩ := hW
  have hA : DataW.TrodAll enc Try.prog W 0 (fun _ => true) true Try.f6.params.toList args.toList ds p := hA0
  rw [Try.params6] at hA hval hsz
  obtain ⟨v0, vs0, d0, ds0, p0, q0, hargs, rfl, rfl, h0, r0⟩ := trodAll_cons hA
  obtain ⟨rfl, rfl, rfl⟩ := trodAll_nil r0
  obtain rfl : args = #[v0] := by cases args; simp_all
  obtain ⟨rfl, rfl⟩ := trodVars_none hV
  have k0 := h0
  have lt0 : ∀ x ∈ p0, x.block < W.heap.size := by obtain ⟨m, hm⟩ := k0; exact DataW.trod_lt m _ _ _ hm
  obtain ⟨x0, hB0, hn0⟩ := bytes_of_trod Try.underlying22 Try.underlying5 (by kernel_rfl) (by kernel_rfl) (hval 0 22 v0 rfl rfl) h0
    (fun elems spare hd => sized_slice hsz (j := 0) (t := 22) (e := 5) rfl (by simp [hd]) Try.underlying22)
  clear hA0 hval0 hsz0
  refine (lawMinimalForm v0 x0 W hB0 hn0).mono fun e W' ⟨he, bel⟩ => ?_
  subst he
  exact ⟨_, rfl, _, _, _, [], _, [], hW', trodAll_mk1 (shut_bool Try.underlying4 _), (trodAll_cons_mk (Below.trod Try.laidOutFnMinimalForm (by kernel_rfl) (of_decide_eq_true (by kernel_rfl)) k0 bel lt0) trodAll_mk0), rfl, Below.frame bel _, fun h => by cases h⟩

theorem fnMinimalForm_holds : Rows.FnMinimalFormSaid :=
  OpenClaim.holds_of_wide 6 Try.f6 rfl rfl rfl rfl rfl rfl rfl ⟨rfl, rfl, rfl, rfl, rfl⟩ rfl rfl rfl rfl rfl (by kernel_rfl) Try.func6 (by kernel_rfl)
    (of_decide_eq_true (by kernel_rfl)) (by unfold Func.isWrapper; first | (rw [if_pos (by decide +kernel)]; kernel_rfl) | (rw [if_neg (by decide +kernel)]; exact ⟨rfl, rfl⟩))
    (fun os started H enc _ => fnMinimalForm_lifted os started H enc)
#print axioms fnMinimalForm_holds
end Go.Proofs.Ytdiedghaoleblaa
