/- The walk of the law FnIntersect: it returns true. Printed by genlawinf.py. -/
import Derived.Test.YtdiedghaoleblaaAutL
import Derived.Test.YtdiedghaoleblaaAuI
import Derived.Test.YtdiedghaoleblaaMcA
import Derived.Test.YtdiedghaoleblaaMcIn
import Derived.Test.YtdiedghaoleblaaOpnA
import Derived.ShutString
import Derived.ChangeOld
namespace Go.Proofs.Ytdiedghaoleblaa
open Go.RowKit
attribute [local go_sem] evalOf

set_option maxRecDepth 100000 in
set_option maxHeartbeats 16000000 in
theorem lawIntersectP (v v2 : Value) (n n2 : Nat) (w : World) (hB : SBytes w v n) (_hn : n ≤ 140737488351232) (hB2 : SBytes w v2 n2) (_hn2 : n2 ≤ 140737488351232) :
    Calls Try.prog 5 #[v, v2] w (Ret (.bool true) w) := by
  have HB := hide hB
  have HB2 := hide hB2
  obtain ⟨A, c, rfl, -⟩ := hB
  obtain ⟨A2, c2, rfl, -⟩ := hB2
  by_cases hl : (1048576 : Int) < n
  · go_enter Try.func5, Try.ntmps5
    go_wp2
    go_ret
    exact Ret.mk rfl (Ext.refl _)
  by_cases hl2 : (1048576 : Int) < n2
  · go_enter Try.func5, Try.ntmps5
    go_wp2
    go_ret
    exact Ret.mk rfl (Ext.refl _)
  · go_enter Try.func5, Try.ntmps5
    go_wp2_with fail
    refine (DrawIntersectAutomata_any _ n _ HB.out).mono ?_
    rintro e wd ⟨vna, vfa, a, vnb, vfb, b, rfl, hN, hF, hN2, hF2, hx⟩
    obtain ⟨Ana, cna, rfl, -⟩ := hN.form
    obtain ⟨Afa, cfa, rfl, -⟩ := hF.form
    obtain ⟨Anb, cnb, rfl, -⟩ := hN2.form
    obtain ⟨Afb, cfb, rfl, -⟩ := hF2.form
    have hNa := hide hN
    have hFa := hide hF
    have hNb := hide hN2
    have hFb := hide hF2
    have HXd := hide hx
    clear hN hF hN2 hF2 hx
    go_upto_region 4 with fail
    obtain ⟨u0, hu0⟩ : ∃ x, x = (wd.alloc (.cells #[.slice Ana a.next.length cna, .slice Afa a.final.length cfa] 26)).alloc (.cells #[.slice Anb b.next.length cnb, .slice Afb b.final.length cfb] 26) := ⟨_, rfl⟩
    obtain ⟨qa, hqa⟩ : ∃ x, x = wd.heap.size := ⟨_, rfl⟩
    obtain ⟨qb, hqb⟩ : ∃ x, x = wd.heap.size + 1 := ⟨_, rfl⟩
    have hxa : Ext wd u0 := by rw [hu0]; exact ((Ext.refl wd).alloc _).alloc _
    have hc0 : u0.cell? ⟨qa, 0, none⟩ = some (.slice Ana a.next.length cna) := by rw [hu0, hqa]; go_simp
    have hc1 : u0.cell? ⟨qa, 1, none⟩ = some (.slice Afa a.final.length cfa) := by rw [hu0, hqa]; go_simp
    have hcs : qa < u0.heap.size := by rw [hu0, hqa]; simp; omega
    have hd0 : u0.cell? ⟨qb, 0, none⟩ = some (.slice Anb b.next.length cnb) := by rw [hu0, hqb]; go_simp
    have hd1 : u0.cell? ⟨qb, 1, none⟩ = some (.slice Afb b.final.length cfb) := by rw [hu0, hqb]; go_simp
    have hds : qb < u0.heap.size := by rw [hu0, hqb]; simp
    rw [← hu0]
    try rw [← hqb]
    rw [← hqa]
    clear hu0 hqa hqb
    have HB2 := hide (HB2.out.ext HXd.out)
    have HB2 := hide (HB2.out.ext hxa)
    have HB_a := hide (fun (W : World) (hW : Ext u0 W) => (show W.cell? ⟨qa, 0, none⟩ = some (.slice Ana a.next.length cna) ∧ W.cell? ⟨qa, 1, none⟩ = some (.slice Afa a.final.length cfa) ∧ qa < W.heap.size from ⟨(hW.cells _ _ hcs).trans hc0, (hW.cells _ _ hcs).trans hc1, Nat.lt_of_lt_of_le hcs hW.size⟩))
    have HN_a := hide (hNa.out.ext hxa)
    have HF_a := hide (hFa.out.ext hxa)
    have HT := hide (HXd.out.trans hxa)
    have HB_b := hide (fun (W : World) (hW : Ext u0 W) => (show W.cell? ⟨qb, 0, none⟩ = some (.slice Anb b.next.length cnb) ∧ W.cell? ⟨qb, 1, none⟩ = some (.slice Afb b.final.length cfb) ∧ qb < W.heap.size from ⟨(hW.cells _ _ hds).trans hd0, (hW.cells _ _ hds).trans hd1, Nat.lt_of_lt_of_le hds hW.size⟩))
    have HN_b := hide (hNb.out.ext hxa)
    have HF_b := hide (hFb.out.ext hxa)
    clear hxa hc0 hc1 hcs hd0 hd1 hds hNa hFa hNb hFb
    obtain ⟨ma0, ma1, mas⟩ := HB_a.out u0 (Ext.refl u0)
    obtain ⟨mb0, mb1, mbs⟩ := HB_b.out u0 (Ext.refl u0)
    go_wp2_with fail
    refine (IntersectI_any _ _ _ _ a b _ (HN_a.out.ext (Ext.refl u0)) (HF_a.out.ext (Ext.refl u0)) (HN_b.out.ext (Ext.refl u0)) (HF_b.out.ext (Ext.refl u0))).mono ?_
    rintro e v1 ⟨ok, r, f, hV, hS⟩
    obtain ⟨vnc, vfc, rfl, hN, hF, hx⟩ := hS.sp hV.ok
    have HV := hide hV
    obtain ⟨Anc, cnc, rfl, -⟩ := hN.form
    obtain ⟨Afc, cfc, rfl, -⟩ := hF.form
    have hNc := hide hN
    have hFc := hide hF
    clear ma0 ma1 mas mb0 mb1 mbs
    have HXv1 := hide ((Ext.refl u0).trans hx)
    clear hN hF hx
    go_upto_region 5 with fail
    obtain ⟨u1, hu1⟩ : ∃ x, x = v1.alloc (.cells #[.slice Anc r.length cnc, .slice Afc f.length cfc] 26) := ⟨_, rfl⟩
    obtain ⟨qc, hqc⟩ : ∃ x, x = v1.heap.size := ⟨_, rfl⟩
    have hxa : Ext v1 u1 := by rw [hu1]; exact (Ext.refl v1).alloc _
    have hc0 : u1.cell? ⟨qc, 0, none⟩ = some (.slice Anc r.length cnc) := by rw [hu1, hqc]; go_simp
    have hc1 : u1.cell? ⟨qc, 1, none⟩ = some (.slice Afc f.length cfc) := by rw [hu1, hqc]; go_simp
    have hcs : qc < u1.heap.size := by rw [hu1, hqc]; simp
    rw [← hu1, ← hqc]
    clear hu1 hqc
    have HB_a := hide (fun (W : World) (hW : Ext u1 W) => HB_a.out W ((HXv1.out.trans hxa).trans hW))
    have HN_a := hide (HN_a.out.ext (HXv1.out.trans hxa))
    have HF_a := hide (HF_a.out.ext (HXv1.out.trans hxa))
    have HB_b := hide (fun (W : World) (hW : Ext u1 W) => HB_b.out W ((HXv1.out.trans hxa).trans hW))
    have HN_b := hide (HN_b.out.ext (HXv1.out.trans hxa))
    have HF_b := hide (HF_b.out.ext (HXv1.out.trans hxa))
    have HB2 := hide (HB2.out.ext (HXv1.out.trans hxa))
    have HB_c := hide (fun (W : World) (hW : Ext u1 W) => (show W.cell? ⟨qc, 0, none⟩ = some (.slice Anc r.length cnc) ∧ W.cell? ⟨qc, 1, none⟩ = some (.slice Afc f.length cfc) ∧ qc < W.heap.size from ⟨(hW.cells _ _ hcs).trans hc0, (hW.cells _ _ hcs).trans hc1, Nat.lt_of_lt_of_le hcs hW.size⟩))
    have HN_c := hide (hNc.out.ext hxa)
    have HF_c := hide (hFc.out.ext hxa)
    have HT := hide (HT.out.trans (HXv1.out.trans hxa))
    clear hxa hc0 hc1 hcs hNc hFc HXv1
    obtain ⟨ma0, ma1, mas⟩ := HB_a.out u1 (Ext.refl u1)
    obtain ⟨mb0, mb1, mbs⟩ := HB_b.out u1 (Ext.refl u1)
    go_wp2_with fail
    refine (IntersectS_any _ _ _ _ a b _ (HN_a.out.ext (Ext.refl u1)) (HF_a.out.ext (Ext.refl u1)) (HN_b.out.ext (Ext.refl u1)) (HF_b.out.ext (Ext.refl u1))).mono ?_
    rintro e v2 ⟨ok2, r2, f2, hV2, hS⟩
    obtain ⟨vng, vfg, rfl, hN, hF, hx⟩ := hS
    obtain ⟨rfl, rfl, rfl⟩ := HV.out.uniq hV2
    obtain ⟨Ang, cng, rfl, -⟩ := hN.form
    obtain ⟨Afg, cfg, rfl, -⟩ := hF.form
    have hNg := hide hN
    have hFg := hide hF
    clear ma0 ma1 mas mb0 mb1 mbs
    have HXv2 := hide ((Ext.refl u1).trans hx)
    clear hN hF hx
    go_upto_region 6 with fail
    obtain ⟨u2, hu2⟩ : ∃ x, x = v2.alloc (.cells #[.slice Ang r.length cng, .slice Afg f.length cfg] 26) := ⟨_, rfl⟩
    obtain ⟨qg, hqg⟩ : ∃ x, x = v2.heap.size := ⟨_, rfl⟩
    have hxa : Ext v2 u2 := by rw [hu2]; exact (Ext.refl v2).alloc _
    have hc0 : u2.cell? ⟨qg, 0, none⟩ = some (.slice Ang r.length cng) := by rw [hu2, hqg]; go_simp
    have hc1 : u2.cell? ⟨qg, 1, none⟩ = some (.slice Afg f.length cfg) := by rw [hu2, hqg]; go_simp
    have hcs : qg < u2.heap.size := by rw [hu2, hqg]; simp
    rw [← hu2, ← hqg]
    clear hu2 hqg
    have HB_a := hide (fun (W : World) (hW : Ext u2 W) => HB_a.out W ((HXv2.out.trans hxa).trans hW))
    have HN_a := hide (HN_a.out.ext (HXv2.out.trans hxa))
    have HF_a := hide (HF_a.out.ext (HXv2.out.trans hxa))
    have HB_b := hide (fun (W : World) (hW : Ext u2 W) => HB_b.out W ((HXv2.out.trans hxa).trans hW))
    have HN_b := hide (HN_b.out.ext (HXv2.out.trans hxa))
    have HF_b := hide (HF_b.out.ext (HXv2.out.trans hxa))
    have HB_c := hide (fun (W : World) (hW : Ext u2 W) => HB_c.out W ((HXv2.out.trans hxa).trans hW))
    have HN_c := hide (HN_c.out.ext (HXv2.out.trans hxa))
    have HF_c := hide (HF_c.out.ext (HXv2.out.trans hxa))
    have HB2 := hide (HB2.out.ext (HXv2.out.trans hxa))
    have HB_g := hide (fun (W : World) (hW : Ext u2 W) => (show W.cell? ⟨qg, 0, none⟩ = some (.slice Ang r.length cng) ∧ W.cell? ⟨qg, 1, none⟩ = some (.slice Afg f.length cfg) ∧ qg < W.heap.size from ⟨(hW.cells _ _ hcs).trans hc0, (hW.cells _ _ hcs).trans hc1, Nat.lt_of_lt_of_le hcs hW.size⟩))
    have HN_g := hide (hNg.out.ext hxa)
    have HF_g := hide (hFg.out.ext hxa)
    have HT := hide (HT.out.trans (HXv2.out.trans hxa))
    clear hxa hc0 hc1 hcs hNg hFg HXv2
    obtain ⟨ma0, ma1, mas⟩ := HB_a.out u2 (Ext.refl u2)
    obtain ⟨mb0, mb1, mbs⟩ := HB_b.out u2 (Ext.refl u2)
    obtain ⟨mc0, mc1, mcs⟩ := HB_c.out u2 (Ext.refl u2)
    obtain ⟨mg0, mg1, mgs⟩ := HB_g.out u2 (Ext.refl u2)
    have hbb : (ok != ok) = false := by simp
    have hbe : (ok == ok) = true := by simp
    go_wp2_with fail
    refine (equalAutomata_any _ _ _ _ r r f f _ (HN_c.out.ext (Ext.refl u2)) (HF_c.out.ext (Ext.refl u2)) (HN_g.out.ext (Ext.refl u2)) (HF_g.out.ext (Ext.refl u2))).mono ?_
    rw [eqAu_self]
    rintro e v3 ⟨rfl, hx⟩
    clear ma0 ma1 mas mb0 mb1 mbs mc0 mc1 mcs mg0 mg1 mgs
    have HXv3 := hide ((Ext.refl u2).trans hx)
    clear hx
    obtain ⟨ma0, ma1, mas⟩ := HB_a.out v3 HXv3.out
    obtain ⟨mb0, mb1, mbs⟩ := HB_b.out v3 HXv3.out
    obtain ⟨mc0, mc1, mcs⟩ := HB_c.out v3 HXv3.out
    obtain ⟨mg0, mg1, mgs⟩ := HB_g.out v3 HXv3.out
    go_wp2_with fail
    refine (ValidAutomatonI_any _ _ a _ (HN_a.out.ext HXv3.out) (HF_a.out.ext HXv3.out)).mono ?_
    rintro e v4 ⟨rfl, hx⟩
    clear ma0 ma1 mas mb0 mb1 mbs mc0 mc1 mcs mg0 mg1 mgs
    have HXv4 := hide (HXv3.out.trans hx)
    clear hx
    cases hva : vAut a with
    | false =>
      clear hva
      obtain ⟨mc0, mc1, mcs⟩ := HB_c.out v4 HXv4.out
      obtain ⟨mg0, mg1, mgs⟩ := HB_g.out v4 HXv4.out
      go_wp2_with fail
      refine (equalAutomata_any _ _ _ _ r r f f _ (HN_c.out.ext HXv4.out) (HF_c.out.ext HXv4.out) (HN_g.out.ext HXv4.out) (HF_g.out.ext HXv4.out)).mono ?_
      rw [eqAu_self]
      rintro e v45 ⟨rfl, hx⟩
      clear mc0 mc1 mcs mg0 mg1 mgs
      have HXv45 := hide (HXv4.out.trans hx)
      clear hx
      go_wp2_with fail
      go_ret
      exact Ret.mk rfl (HT.out.trans HXv45.out)
    | true =>
      obtain ⟨mb0, mb1, mbs⟩ := HB_b.out v4 HXv4.out
      go_wp2_with fail
      refine (ValidAutomatonI_any _ _ b _ (HN_b.out.ext HXv4.out) (HF_b.out.ext HXv4.out)).mono ?_
      rintro e v21 ⟨rfl, hx⟩
      clear mb0 mb1 mbs
      have HXv21 := hide (HXv4.out.trans hx)
      clear hx
      cases hvb : vAut b with
      | false =>
        clear hva hvb
        obtain ⟨mc0, mc1, mcs⟩ := HB_c.out v21 HXv21.out
        obtain ⟨mg0, mg1, mgs⟩ := HB_g.out v21 HXv21.out
        go_wp2_with fail
        refine (equalAutomata_any _ _ _ _ r r f f _ (HN_c.out.ext HXv21.out) (HF_c.out.ext HXv21.out) (HN_g.out.ext HXv21.out) (HF_g.out.ext HXv21.out)).mono ?_
        rw [eqAu_self]
        rintro e v62 ⟨rfl, hx⟩
        clear mc0 mc1 mcs mg0 mg1 mgs
        have HXv62 := hide (HXv21.out.trans hx)
        clear hx
        go_wp2_with fail
        go_ret
        exact Ret.mk rfl (HT.out.trans HXv62.out)
      | true =>
        obtain ⟨h1, h2, h3⟩ := int_all hva hvb HV.out
        have H1 := hide h1
        have H2 := hide h2
        have H3 := hide h3
        clear hva hvb h1 h2 h3
        obtain ⟨ma0, ma1, mas⟩ := HB_a.out v21 HXv21.out
        obtain ⟨mb0, mb1, mbs⟩ := HB_b.out v21 HXv21.out
        go_wp2_with fail
        refine (IntersectI_any _ _ _ _ b a _ (HN_b.out.ext HXv21.out) (HF_b.out.ext HXv21.out) (HN_a.out.ext HXv21.out) (HF_a.out.ext HXv21.out)).mono ?_
        rintro e v41 ⟨oky, ry, fy, hVy, hS⟩
        obtain ⟨vny, vfy, rfl, hN, hF, hx⟩ := hS.sp hVy.ok
        obtain ⟨e1, e2, e3⟩ := H1.out _ _ _ hVy
        have e1 := e1.symm
        have e2 := e2.symm
        have e3 := e3.symm
        subst e1 e2 e3
        obtain ⟨Any, cny, rfl, -⟩ := hN.form
        obtain ⟨Afy, cfy, rfl, -⟩ := hF.form
        have hNy := hide hN
        have hFy := hide hF
        clear ma0 ma1 mas mb0 mb1 mbs
        have HXv41 := hide (HXv21.out.trans hx)
        clear hN hF hx
        go_upto_region 9 with fail
        obtain ⟨u41, hu41⟩ : ∃ x, x = v41.alloc (.cells #[.slice Any r.length cny, .slice Afy f.length cfy] 26) := ⟨_, rfl⟩
        obtain ⟨qy, hqy⟩ : ∃ x, x = v41.heap.size := ⟨_, rfl⟩
        have hxa : Ext v41 u41 := by rw [hu41]; exact (Ext.refl v41).alloc _
        have hc0 : u41.cell? ⟨qy, 0, none⟩ = some (.slice Any r.length cny) := by rw [hu41, hqy]; go_simp
        have hc1 : u41.cell? ⟨qy, 1, none⟩ = some (.slice Afy f.length cfy) := by rw [hu41, hqy]; go_simp
        have hcs : qy < u41.heap.size := by rw [hu41, hqy]; simp
        rw [← hu41, ← hqy]
        clear hu41 hqy
        have HB_a := hide (fun (W : World) (hW : Ext u41 W) => HB_a.out W ((HXv41.out.trans hxa).trans hW))
        have HN_a := hide (HN_a.out.ext (HXv41.out.trans hxa))
        have HF_a := hide (HF_a.out.ext (HXv41.out.trans hxa))
        have HB_b := hide (fun (W : World) (hW : Ext u41 W) => HB_b.out W ((HXv41.out.trans hxa).trans hW))
        have HN_b := hide (HN_b.out.ext (HXv41.out.trans hxa))
        have HF_b := hide (HF_b.out.ext (HXv41.out.trans hxa))
        have HB_c := hide (fun (W : World) (hW : Ext u41 W) => HB_c.out W ((HXv41.out.trans hxa).trans hW))
        have HN_c := hide (HN_c.out.ext (HXv41.out.trans hxa))
        have HF_c := hide (HF_c.out.ext (HXv41.out.trans hxa))
        have HB_g := hide (fun (W : World) (hW : Ext u41 W) => HB_g.out W ((HXv41.out.trans hxa).trans hW))
        have HN_g := hide (HN_g.out.ext (HXv41.out.trans hxa))
        have HF_g := hide (HF_g.out.ext (HXv41.out.trans hxa))
        have HB2 := hide (HB2.out.ext (HXv41.out.trans hxa))
        have HB_y := hide (fun (W : World) (hW : Ext u41 W) => (show W.cell? ⟨qy, 0, none⟩ = some (.slice Any r.length cny) ∧ W.cell? ⟨qy, 1, none⟩ = some (.slice Afy f.length cfy) ∧ qy < W.heap.size from ⟨(hW.cells _ _ hcs).trans hc0, (hW.cells _ _ hcs).trans hc1, Nat.lt_of_lt_of_le hcs hW.size⟩))
        have HN_y := hide (hNy.out.ext hxa)
        have HF_y := hide (hFy.out.ext hxa)
        have HT := hide (HT.out.trans (HXv41.out.trans hxa))
        clear hxa hc0 hc1 hcs hNy hFy HXv41
        obtain ⟨ma0, ma1, mas⟩ := HB_a.out u41 (Ext.refl u41)
        go_wp2_with fail
        refine (IntersectI_any _ _ _ _ a a _ (HN_a.out.ext (Ext.refl u41)) (HF_a.out.ext (Ext.refl u41)) (HN_a.out.ext (Ext.refl u41)) (HF_a.out.ext (Ext.refl u41))).mono ?_
        rintro e v42 ⟨oks, rs, fs, hVs, hS⟩
        obtain ⟨vns, vfs, rfl, hN, hF, hx⟩ := hS.sp hVs.ok
        have HVs := hide hVs
        obtain ⟨Ans, cns, rfl, -⟩ := hN.form
        obtain ⟨Afs, cfs, rfl, -⟩ := hF.form
        have hNs := hide hN
        have hFs := hide hF
        clear ma0 ma1 mas
        have HXv42 := hide ((Ext.refl u41).trans hx)
        clear hN hF hx
        go_upto_region 10 with fail
        obtain ⟨u42, hu42⟩ : ∃ x, x = v42.alloc (.cells #[.slice Ans rs.length cns, .slice Afs fs.length cfs] 26) := ⟨_, rfl⟩
        obtain ⟨qs, hqs⟩ : ∃ x, x = v42.heap.size := ⟨_, rfl⟩
        have hxa : Ext v42 u42 := by rw [hu42]; exact (Ext.refl v42).alloc _
        have hc0 : u42.cell? ⟨qs, 0, none⟩ = some (.slice Ans rs.length cns) := by rw [hu42, hqs]; go_simp
        have hc1 : u42.cell? ⟨qs, 1, none⟩ = some (.slice Afs fs.length cfs) := by rw [hu42, hqs]; go_simp
        have hcs : qs < u42.heap.size := by rw [hu42, hqs]; simp
        rw [← hu42, ← hqs]
        clear hu42 hqs
        have HB_a := hide (fun (W : World) (hW : Ext u42 W) => HB_a.out W ((HXv42.out.trans hxa).trans hW))
        have HN_a := hide (HN_a.out.ext (HXv42.out.trans hxa))
        have HF_a := hide (HF_a.out.ext (HXv42.out.trans hxa))
        have HB_b := hide (fun (W : World) (hW : Ext u42 W) => HB_b.out W ((HXv42.out.trans hxa).trans hW))
        have HN_b := hide (HN_b.out.ext (HXv42.out.trans hxa))
        have HF_b := hide (HF_b.out.ext (HXv42.out.trans hxa))
        have HB_c := hide (fun (W : World) (hW : Ext u42 W) => HB_c.out W ((HXv42.out.trans hxa).trans hW))
        have HN_c := hide (HN_c.out.ext (HXv42.out.trans hxa))
        have HF_c := hide (HF_c.out.ext (HXv42.out.trans hxa))
        have HB_g := hide (fun (W : World) (hW : Ext u42 W) => HB_g.out W ((HXv42.out.trans hxa).trans hW))
        have HN_g := hide (HN_g.out.ext (HXv42.out.trans hxa))
        have HF_g := hide (HF_g.out.ext (HXv42.out.trans hxa))
        have HB_y := hide (fun (W : World) (hW : Ext u42 W) => HB_y.out W ((HXv42.out.trans hxa).trans hW))
        have HN_y := hide (HN_y.out.ext (HXv42.out.trans hxa))
        have HF_y := hide (HF_y.out.ext (HXv42.out.trans hxa))
        have HB2 := hide (HB2.out.ext (HXv42.out.trans hxa))
        have HB_s := hide (fun (W : World) (hW : Ext u42 W) => (show W.cell? ⟨qs, 0, none⟩ = some (.slice Ans rs.length cns) ∧ W.cell? ⟨qs, 1, none⟩ = some (.slice Afs fs.length cfs) ∧ qs < W.heap.size from ⟨(hW.cells _ _ hcs).trans hc0, (hW.cells _ _ hcs).trans hc1, Nat.lt_of_lt_of_le hcs hW.size⟩))
        have HN_s := hide (hNs.out.ext hxa)
        have HF_s := hide (hFs.out.ext hxa)
        have HT := hide (HT.out.trans (HXv42.out.trans hxa))
        clear hxa hc0 hc1 hcs hNs hFs HXv42
        obtain ⟨ma0, ma1, mas⟩ := HB_a.out u42 (Ext.refl u42)
        go_wp2_with fail
        refine (MinimizeI_any _ _ a _ (HN_a.out.ext (Ext.refl u42)) (HF_a.out.ext (Ext.refl u42))).mono ?_
        rintro e v43 ⟨okm, rm, fm, hVm, hS⟩
        obtain ⟨vnm, vfm, rfl, hN, hF, hx⟩ := hS.sp hVm.ok
        obtain ⟨e1, e2, e3, e4⟩ := H2.out _ _ _ _ _ _ HVs.out hVm
        subst e1 e2 e3 e4
        obtain ⟨Anm, cnm, rfl, -⟩ := hN.form
        obtain ⟨Afm, cfm, rfl, -⟩ := hF.form
        have hNm := hide hN
        have hFm := hide hF
        clear ma0 ma1 mas
        have HXv43 := hide ((Ext.refl u42).trans hx)
        clear hN hF hx
        go_upto_region 11 with fail
        obtain ⟨u43, hu43⟩ : ∃ x, x = v43.alloc (.cells #[.slice Anm rs.length cnm, .slice Afm fs.length cfm] 26) := ⟨_, rfl⟩
        obtain ⟨qm, hqm⟩ : ∃ x, x = v43.heap.size := ⟨_, rfl⟩
        have hxa : Ext v43 u43 := by rw [hu43]; exact (Ext.refl v43).alloc _
        have hc0 : u43.cell? ⟨qm, 0, none⟩ = some (.slice Anm rs.length cnm) := by rw [hu43, hqm]; go_simp
        have hc1 : u43.cell? ⟨qm, 1, none⟩ = some (.slice Afm fs.length cfm) := by rw [hu43, hqm]; go_simp
        have hcs : qm < u43.heap.size := by rw [hu43, hqm]; simp
        rw [← hu43, ← hqm]
        clear hu43 hqm
        have HB_a := hide (fun (W : World) (hW : Ext u43 W) => HB_a.out W ((HXv43.out.trans hxa).trans hW))
        have HN_a := hide (HN_a.out.ext (HXv43.out.trans hxa))
        have HF_a := hide (HF_a.out.ext (HXv43.out.trans hxa))
        have HB_b := hide (fun (W : World) (hW : Ext u43 W) => HB_b.out W ((HXv43.out.trans hxa).trans hW))
        have HN_b := hide (HN_b.out.ext (HXv43.out.trans hxa))
        have HF_b := hide (HF_b.out.ext (HXv43.out.trans hxa))
        have HB_c := hide (fun (W : World) (hW : Ext u43 W) => HB_c.out W ((HXv43.out.trans hxa).trans hW))
        have HN_c := hide (HN_c.out.ext (HXv43.out.trans hxa))
        have HF_c := hide (HF_c.out.ext (HXv43.out.trans hxa))
        have HB_g := hide (fun (W : World) (hW : Ext u43 W) => HB_g.out W ((HXv43.out.trans hxa).trans hW))
        have HN_g := hide (HN_g.out.ext (HXv43.out.trans hxa))
        have HF_g := hide (HF_g.out.ext (HXv43.out.trans hxa))
        have HB_y := hide (fun (W : World) (hW : Ext u43 W) => HB_y.out W ((HXv43.out.trans hxa).trans hW))
        have HN_y := hide (HN_y.out.ext (HXv43.out.trans hxa))
        have HF_y := hide (HF_y.out.ext (HXv43.out.trans hxa))
        have HB_s := hide (fun (W : World) (hW : Ext u43 W) => HB_s.out W ((HXv43.out.trans hxa).trans hW))
        have HN_s := hide (HN_s.out.ext (HXv43.out.trans hxa))
        have HF_s := hide (HF_s.out.ext (HXv43.out.trans hxa))
        have HB2 := hide (HB2.out.ext (HXv43.out.trans hxa))
        have HB_m := hide (fun (W : World) (hW : Ext u43 W) => (show W.cell? ⟨qm, 0, none⟩ = some (.slice Anm rs.length cnm) ∧ W.cell? ⟨qm, 1, none⟩ = some (.slice Afm fs.length cfm) ∧ qm < W.heap.size from ⟨(hW.cells _ _ hcs).trans hc0, (hW.cells _ _ hcs).trans hc1, Nat.lt_of_lt_of_le hcs hW.size⟩))
        have HN_m := hide (hNm.out.ext hxa)
        have HF_m := hide (hFm.out.ext hxa)
        have HT := hide (HT.out.trans (HXv43.out.trans hxa))
        clear hxa hc0 hc1 hcs hNm hFm HXv43
        go_wp2_with fail
        refine (someWord_any _ n2 _ (HB2.out.ext (Ext.refl u43))).mono ?_
        rintro e z0 ⟨vw, xs, rfl, hS, hxw, hx⟩
        obtain ⟨Aw, cw, rfl, -⟩ := hS.form
        have HW := hide hS
        have HXW := hide hxw
        obtain ⟨p, hp⟩ : ∃ p, p = accB a xs := ⟨_, rfl⟩
        obtain ⟨q, hq⟩ : ∃ q, q = accB b xs := ⟨_, rfl⟩
        have HP := hide hp
        have HQ := hide hq
        clear hS hxw hp hq
        have HB_a := hide (fun (W : World) (hW : Ext z0 W) => HB_a.out W (((Ext.refl u43).trans hx).trans hW))
        have HN_a := hide (HN_a.out.ext ((Ext.refl u43).trans hx))
        have HF_a := hide (HF_a.out.ext ((Ext.refl u43).trans hx))
        have HB_b := hide (fun (W : World) (hW : Ext z0 W) => HB_b.out W (((Ext.refl u43).trans hx).trans hW))
        have HN_b := hide (HN_b.out.ext ((Ext.refl u43).trans hx))
        have HF_b := hide (HF_b.out.ext ((Ext.refl u43).trans hx))
        have HB_c := hide (fun (W : World) (hW : Ext z0 W) => HB_c.out W (((Ext.refl u43).trans hx).trans hW))
        have HN_c := hide (HN_c.out.ext ((Ext.refl u43).trans hx))
        have HF_c := hide (HF_c.out.ext ((Ext.refl u43).trans hx))
        have HB_g := hide (fun (W : World) (hW : Ext z0 W) => HB_g.out W (((Ext.refl u43).trans hx).trans hW))
        have HN_g := hide (HN_g.out.ext ((Ext.refl u43).trans hx))
        have HF_g := hide (HF_g.out.ext ((Ext.refl u43).trans hx))
        have HB_y := hide (fun (W : World) (hW : Ext z0 W) => HB_y.out W (((Ext.refl u43).trans hx).trans hW))
        have HN_y := hide (HN_y.out.ext ((Ext.refl u43).trans hx))
        have HF_y := hide (HF_y.out.ext ((Ext.refl u43).trans hx))
        have HB_s := hide (fun (W : World) (hW : Ext z0 W) => HB_s.out W (((Ext.refl u43).trans hx).trans hW))
        have HN_s := hide (HN_s.out.ext ((Ext.refl u43).trans hx))
        have HF_s := hide (HF_s.out.ext ((Ext.refl u43).trans hx))
        have HB_m := hide (fun (W : World) (hW : Ext z0 W) => HB_m.out W (((Ext.refl u43).trans hx).trans hW))
        have HN_m := hide (HN_m.out.ext ((Ext.refl u43).trans hx))
        have HF_m := hide (HF_m.out.ext ((Ext.refl u43).trans hx))
        have HB2 := hide (HB2.out.ext ((Ext.refl u43).trans hx))
        have HT := hide (HT.out.trans ((Ext.refl u43).trans hx))
        clear hx
        obtain ⟨ma0, ma1, mas⟩ := HB_a.out z0 (Ext.refl z0)
        go_wp2_with fail
        refine (AutomatonAcceptsI_any _ _ _ a xs _ (HN_a.out.ext (Ext.refl z0)) (HF_a.out.ext (Ext.refl z0)) (HW.out.ext (Ext.refl z0))).mono ?_
        rw [← HP.out]
        rintro e v44 ⟨rfl, hx⟩
        clear ma0 ma1 mas
        have HXv44 := hide ((Ext.refl z0).trans hx)
        clear hx
        cases p with
        | false =>
          have hbe2 : (ok == ok) = true := by simp
          obtain ⟨ma0, ma1, mas⟩ := HB_a.out v44 HXv44.out
          obtain ⟨mb0, mb1, mbs⟩ := HB_b.out v44 HXv44.out
          obtain ⟨mc0, mc1, mcs⟩ := HB_c.out v44 HXv44.out
          obtain ⟨mg0, mg1, mgs⟩ := HB_g.out v44 HXv44.out
          obtain ⟨my0, my1, mys⟩ := HB_y.out v44 HXv44.out
          obtain ⟨ms0, ms1, mss⟩ := HB_s.out v44 HXv44.out
          obtain ⟨mm0, mm1, mms⟩ := HB_m.out v44 HXv44.out
          go_wp2_with fail
          refine (equalAutomata_any _ _ _ _ r r f f _ (HN_c.out.ext HXv44.out) (HF_c.out.ext HXv44.out) (HN_y.out.ext HXv44.out) (HF_y.out.ext HXv44.out)).mono ?_
          rw [eqAu_self]
          rintro e v61 ⟨rfl, hx⟩
          clear ma0 ma1 mas mb0 mb1 mbs mc0 mc1 mcs mg0 mg1 mgs my0 my1 mys ms0 ms1 mss mm0 mm1 mms
          have HXv61 := hide (HXv44.out.trans hx)
          clear hx
          obtain ⟨ma0, ma1, mas⟩ := HB_a.out v61 HXv61.out
          obtain ⟨mb0, mb1, mbs⟩ := HB_b.out v61 HXv61.out
          obtain ⟨mc0, mc1, mcs⟩ := HB_c.out v61 HXv61.out
          obtain ⟨mg0, mg1, mgs⟩ := HB_g.out v61 HXv61.out
          obtain ⟨my0, my1, mys⟩ := HB_y.out v61 HXv61.out
          obtain ⟨ms0, ms1, mss⟩ := HB_s.out v61 HXv61.out
          obtain ⟨mm0, mm1, mms⟩ := HB_m.out v61 HXv61.out
          go_wp2_with fail
          refine (equalAutomata_any _ _ _ _ rs rs fs fs _ (HN_s.out.ext HXv61.out) (HF_s.out.ext HXv61.out) (HN_m.out.ext HXv61.out) (HF_m.out.ext HXv61.out)).mono ?_
          rw [eqAu_self]
          rintro e v62 ⟨rfl, hx⟩
          clear ma0 ma1 mas mb0 mb1 mbs mc0 mc1 mcs mg0 mg1 mgs my0 my1 mys ms0 ms1 mss mm0 mm1 mms
          have HXv62 := hide (HXv61.out.trans hx)
          clear hx
          cases ok with
          | false =>
            go_wp2_with fail
            go_ret
            exact Ret.mk rfl (HT.out.trans HXv62.out)
          | true =>
            obtain ⟨mc0, mc1, mcs⟩ := HB_c.out v62 HXv62.out
            have hac := H3.out rfl xs HXW.out
            rw [← HP.out, ← HQ.out] at hac
            have HAC := hide hac
            clear hac
            go_wp2_with fail
            refine (AutomatonAcceptsI_any _ _ _ ⟨r, f⟩ xs _ (HN_c.out.ext HXv62.out) (HF_c.out.ext HXv62.out) (HW.out.ext HXv62.out)).mono ?_
            rw [HAC.out]
            rintro e v103 ⟨rfl, hx⟩
            clear mc0 mc1 mcs
            have HXv103 := hide (HXv62.out.trans hx)
            clear hx
            cases q with
            | false =>
              go_wp2_with fail
              go_ret
              exact Ret.mk rfl (HT.out.trans HXv103.out)
            | true =>
              go_wp2_with fail
              go_ret
              exact Ret.mk rfl (HT.out.trans HXv103.out)
        | true =>
          obtain ⟨mb0, mb1, mbs⟩ := HB_b.out v44 HXv44.out
          go_wp2_with fail
          refine (AutomatonAcceptsI_any _ _ _ b xs _ (HN_b.out.ext HXv44.out) (HF_b.out.ext HXv44.out) (HW.out.ext HXv44.out)).mono ?_
          rw [← HQ.out]
          rintro e v81 ⟨rfl, hx⟩
          clear mb0 mb1 mbs
          have HXv81 := hide (HXv44.out.trans hx)
          clear hx
          have hbe2 : (ok == ok) = true := by simp
          obtain ⟨ma0, ma1, mas⟩ := HB_a.out v81 HXv81.out
          obtain ⟨mb0, mb1, mbs⟩ := HB_b.out v81 HXv81.out
          obtain ⟨mc0, mc1, mcs⟩ := HB_c.out v81 HXv81.out
          obtain ⟨mg0, mg1, mgs⟩ := HB_g.out v81 HXv81.out
          obtain ⟨my0, my1, mys⟩ := HB_y.out v81 HXv81.out
          obtain ⟨ms0, ms1, mss⟩ := HB_s.out v81 HXv81.out
          obtain ⟨mm0, mm1, mms⟩ := HB_m.out v81 HXv81.out
          go_wp2_with fail
          refine (equalAutomata_any _ _ _ _ r r f f _ (HN_c.out.ext HXv81.out) (HF_c.out.ext HXv81.out) (HN_y.out.ext HXv81.out) (HF_y.out.ext HXv81.out)).mono ?_
          rw [eqAu_self]
          rintro e v82 ⟨rfl, hx⟩
          clear ma0 ma1 mas mb0 mb1 mbs mc0 mc1 mcs mg0 mg1 mgs my0 my1 mys ms0 ms1 mss mm0 mm1 mms
          have HXv82 := hide (HXv81.out.trans hx)
          clear hx
          obtain ⟨ma0, ma1, mas⟩ := HB_a.out v82 HXv82.out
          obtain ⟨mb0, mb1, mbs⟩ := HB_b.out v82 HXv82.out
          obtain ⟨mc0, mc1, mcs⟩ := HB_c.out v82 HXv82.out
          obtain ⟨mg0, mg1, mgs⟩ := HB_g.out v82 HXv82.out
          obtain ⟨my0, my1, mys⟩ := HB_y.out v82 HXv82.out
          obtain ⟨ms0, ms1, mss⟩ := HB_s.out v82 HXv82.out
          obtain ⟨mm0, mm1, mms⟩ := HB_m.out v82 HXv82.out
          go_wp2_with fail
          refine (equalAutomata_any _ _ _ _ rs rs fs fs _ (HN_s.out.ext HXv82.out) (HF_s.out.ext HXv82.out) (HN_m.out.ext HXv82.out) (HF_m.out.ext HXv82.out)).mono ?_
          rw [eqAu_self]
          rintro e v83 ⟨rfl, hx⟩
          clear ma0 ma1 mas mb0 mb1 mbs mc0 mc1 mcs mg0 mg1 mgs my0 my1 mys ms0 ms1 mss mm0 mm1 mms
          have HXv83 := hide (HXv82.out.trans hx)
          clear hx
          cases ok with
          | false =>
            go_wp2_with fail
            go_ret
            exact Ret.mk rfl (HT.out.trans HXv83.out)
          | true =>
            obtain ⟨mc0, mc1, mcs⟩ := HB_c.out v83 HXv83.out
            have hac := H3.out rfl xs HXW.out
            rw [← HP.out, ← HQ.out] at hac
            have HAC := hide hac
            clear hac
            go_wp2_with fail
            refine (AutomatonAcceptsI_any _ _ _ ⟨r, f⟩ xs _ (HN_c.out.ext HXv83.out) (HF_c.out.ext HXv83.out) (HW.out.ext HXv83.out)).mono ?_
            rw [HAC.out]
            rintro e v124 ⟨rfl, hx⟩
            clear mc0 mc1 mcs
            have HXv124 := hide (HXv83.out.trans hx)
            clear hx
            cases q with
            | false =>
              go_wp2_with fail
              go_ret
              exact Ret.mk rfl (HT.out.trans HXv124.out)
            | true =>
              go_wp2_with fail
              go_ret
              exact Ret.mk rfl (HT.out.trans HXv124.out)
end Go.Proofs.Ytdiedghaoleblaa
/- FnIntersect returns true for all bytes. No condition. -/
namespace Go.Proofs.Ytdiedghaoleblaa
open Go.ChangeShapes Go.WideShapes Go.ChangeAt Go.RowKit

theorem Try.ownFnIntersect : ownKnob Try.prog.godebug = none := by kernel_rfl
theorem Try.laidOutFnIntersect : laidOutB Try.prog = true := by kernel_rfl

set_option maxRecDepth 100000 in
theorem fnIntersect_lifted (os : Os) (started : os.Started) (H : Type) (enc : TypeId × Value → H) :
    ReturnsInHanded {} Try.checked os 5 .any (Rows.fnIntersectSpec.pre6 enc Try.prog Try.f5 Rows.fnIntersectRow.domain false) (Rows.fnIntersectSpec.post enc Try.prog Try.f5 false true false false) := by
  refine returnsInHanded_of_change_sized (C := Try.checked) Try.ownFnIntersect started (by kernel_rfl) Try.func5
    (ChangeSpec.witness6 (enc := enc) (C := Try.checked) false ⟨#[], #[.slice none 0 0, .slice none 0 0], []⟩ 8 (by kernel_rfl) (by kernel_rfl) (by kernel_rfl) (by kernel_rfl)) ?_
  intro W base args ds gs before hval0 hW hcnd hsz0 _
  have hval : ∀ (j : Nat) t v, Try.f5.params[j]? = some t → args[j]? = some v → Value.okWide Try.prog W .any base t v := hval0
  have hsz : (DataW.weightsEach Try.prog (Try.f5.params.toList ++ Rows.fnIntersectSpec.plain.varTypes Try.prog) (ds ++ gs)).all (· ≤ reachBytes) = true := hsz0
  have hW' := hW
  obtain ⟨p, q, hA0, hV, rfl, hfz, hnd⟩ := hW
  have hA : DataW.TrodAll enc Try.prog W 0 (fun _ => true) true Try.f5.params.toList args.toList ds p := hA0
  rw [Try.params5] at hA hval hsz
  obtain ⟨v0, vs0, d0, ds0, p0, q0, hargs, rfl, rfl, h0, r0⟩ := trodAll_cons hA
  obtain ⟨v1, vs1, d1, ds1, p1, q1, rfl, rfl, rfl, h1, r1⟩ := trodAll_cons r0
  obtain ⟨rfl, rfl, rfl⟩ := trodAll_nil r1
  obtain rfl : args = #[v0, v1] := by cases args; simp_all
  obtain ⟨rfl, rfl⟩ := trodVars_none hV
  have k0 := h0
  have lt0 : ∀ x ∈ p0, x.block < W.heap.size := by obtain ⟨m, hm⟩ := k0; exact DataW.trod_lt m _ _ _ hm
  obtain ⟨x0, hB0, hn0⟩ := bytes_of_trod Try.underlying22 Try.underlying5 (by kernel_rfl) (by kernel_rfl) (hval 0 22 v0 rfl rfl) h0
    (fun elems spare hd => sized_slice hsz (j := 0) (t := 22) (e := 5) rfl (by simp [hd]) Try.underlying22)
  have k1 := h1
  have lt1 : ∀ x ∈ p1, x.block < W.heap.size := by obtain ⟨m, hm⟩ := k1; exact DataW.trod_lt m _ _ _ hm
  obtain ⟨x1, hB1, hn1⟩ := bytes_of_trod Try.underlying22 Try.underlying5 (by kernel_rfl) (by kernel_rfl) (hval 1 22 v1 rfl rfl) h1
    (fun elems spare hd => sized_slice hsz (j := 1) (t := 22) (e := 5) rfl (by simp [hd]) Try.underlying22)
  clear hA0 hval0 hsz0
  refine (lawIntersectP v0 v1 x0 x1 W hB0 hn0 hB1 hn1).mono fun e W' ⟨he, bel⟩ => ?_
  subst he
  exact ⟨_, rfl, _, _, _, [], _, [], hW', trodAll_mk1 (shut_bool Try.underlying4 _), (trodAll_cons_mk (Below.trod Try.laidOutFnIntersect (by kernel_rfl) (of_decide_eq_true (by kernel_rfl)) k0 bel lt0) (trodAll_cons_mk (Below.trod Try.laidOutFnIntersect (by kernel_rfl) (of_decide_eq_true (by kernel_rfl)) k1 bel lt1) trodAll_mk0)), rfl, Below.frame bel _, fun h => by cases h⟩

theorem fnIntersect_holds : Rows.FnIntersectSaid :=
  OpenClaim.holds_of_wide 5 Try.f5 rfl rfl rfl rfl rfl rfl rfl ⟨rfl, rfl, rfl, rfl, rfl⟩ rfl rfl rfl rfl rfl (by kernel_rfl) Try.func5 (by kernel_rfl)
    (of_decide_eq_true (by kernel_rfl)) (by unfold Func.isWrapper; first | (rw [if_pos (by decide +kernel)]; kernel_rfl) | (rw [if_neg (by decide +kernel)]; exact ⟨rfl, rfl⟩))
    (fun os started H enc _ => fnIntersect_lifted os started H enc)
#print axioms fnIntersect_holds
end Go.Proofs.Ytdiedghaoleblaa
