/- The reference's refutation by propagation, no clauses learnt. Printed by genref.py. -/
import Derived.Test.YtepmaclbeggpfaaGreatRfI
namespace Go.Proofs.YtepmaclbeggpfaaGreat
open Go.RowKit
attribute [local go_sem] evalOf
set_option maxRecDepth 100000 in
set_option maxHeartbeats 8000000 in
theorem refute0_any (v vd : Value) (Ae : Option Addr) (ce : Nat) (D ds : List Int) (cs : List Con) (w : World) (hM : SMod w v D cs) (hD : SInts w vd ds) (hG : GoodD cs ds.length ds) (h4 : ds.length ≤ 4) (h1 : 0 < ds.length) :
    Calls Tryz.prog 129 #[v, .slice Ae 0 ce, vd] w (Ret (.bool (hasI (propL cs ds) 0)) w) := by
  have hM0 := hide hM
  have hD0 := hide hD
  obtain ⟨ve, vc, rfl, hE, hC⟩ := hM
  have HG := hide hG
  obtain ⟨A1, c1, rfl, -, hle⟩ := hE.form
  obtain ⟨Ac, cc, rfl, -, hlc⟩ := hC.form
  obtain ⟨Ad, cd, rfl, -, hld⟩ := hD.form
  obtain ⟨w0, hw0⟩ : ∃ w0, w0 = w.alloc (.cells #[.slice A1 D.length c1, .slice Ac cs.length cc] 32) := ⟨_, rfl⟩
  have hx0 : Ext w w0 := by rw [hw0]; exact (Ext.refl w).alloc _
  have k0 : w0.cell? ⟨w.heap.size, 0, none⟩ = some (.slice A1 D.length c1) := by rw [hw0]; go_simp
  have k1 : w0.cell? ⟨w.heap.size, 1, none⟩ = some (.slice Ac cs.length cc) := by rw [hw0]; go_simp
  have ks : w.heap.size < w0.heap.size := by rw [hw0]; simp
  have HX0 := hide hx0
  have K0 := hide k0
  have K1 := hide k1
  clear hE hC hD hx0 hG k1
  go_enter Tryz.func129, Tryz.ntmps129
  go_wp2_with fail
  rw [← hw0]
  clear hw0
  refine (copyInts_any _ ds _ (hD0.out.ext HX0.out) h1).mono ?_
  rintro e w1 ⟨A1', c1', b1, m1, f1, rfl, hc1, hb1, hn1, ho1, hx1⟩
  obtain ⟨n, hn⟩ : ∃ n, n = ds.length := ⟨_, rfl⟩
  have HN := hide hn
  have HO := hide (show OwnRes ds w0 (.returned (.slice A1' n c1')) w1 from by rw [hn]; exact ⟨A1', c1', b1, m1, f1, rfl, hc1, hb1, hn1, ho1, hx1⟩)
  have HG2 := hide (show GoodD cs n ds by rw [hn]; exact HG.out)
  rw [← hn] at h4 h1 ⊢
  clear hn ho1 hx1 hb1 hn1 k0 hc1
  go_wp2_with fail
  go_loopg [7] 300 (fun gk v wr => ∃ now : List Int, OwnRes now w0 (.returned v) wr ∧ GoodD cs n now ∧ propL cs now = propL cs ds ∧ sumL now < gk)
  case atStart => exact ⟨ds, HO.out, HG2.out, rfl, by have := sumL_bd ds HG2.out.2.1; have := HN.out; omega⟩
  case round =>
    obtain ⟨now, how, hgn, hit, hsum⟩ := hrel
    obtain ⟨A, cc2, rfl⟩ := how.form
    have HOW := hide how
    have HGN := hide hgn
    have HIT := hide hit
    have HS := hide (how.ints hgn.i64)
    have hx := how.ext0
    have HX := hide hx
    have k0 := (hx.cells _ _ ks).trans K0.out
    have k1 := (hx.cells _ _ ks).trans K1.out
    have hsb := (sumL_bd now hgn.2.1).1
    obtain ⟨k, rfl⟩ : ∃ k, gk = k + 1 := ⟨gk - 1, by omega⟩
    have hnl : now.length = n := hgn.1
    rw [hnl] at HS HOW ⊢
    clear hgn hit hx how
    go_wp2_with fail
    refine (fixpointS_any _ _ D now cs _ (hM0.out.ext (HX0.out.trans HX.out)) HS.out (by rw [hnl]; exact HGN.out) (by rw [hnl]; exact h4) (by rw [hnl]; exact h1)).mono ?_
    rintro e w3 hres
    have HGS := hide (propL_R HGN.out h4).good
    have HSUB := hide (propL_R HGN.out h4).sub
    have hsl : (propL cs now).length = n := HGS.out.1
    have HO3 := hide (show OwnRes (propL cs now) w0 e w3 from OwnRes.from hres HX.out)
    obtain ⟨A3, c3, b3, m3, f3, rfl, hc3, hd3, hb3, ho3, hx3⟩ := hres
    have HS3 := hide (SInts.own hc3 hd3 ho3 HGS.out.i64)
    have HSW := hide (HS.out.ext hx3)
    rw [hsl] at HS3 HO3 ⊢
    have HX3 := hide (HX.out.trans hx3)
    clear hc3 hd3 hb3 ho3 hx3 k0 k1
    go_wp2_with fail
    go_loopw [8, 9] (fun x i wr => x = .slice A3 n c3 ∧ i = .int .i64 0 ∧ wr = w3) (fun _ _ _ => 0)
    case atStart => exact ⟨rfl, rfl, rfl⟩
    case round =>
      obtain ⟨rfl, rfl, rfl⟩ := hrel
      go_wp2_with fail
      refine (hasEmpty_any _ (propL cs now) _ HS3.out).mono ?_
      rintro e w5 ⟨rfl, rfl⟩
      have hidem := propL_idem HGN.out h4 h1
      cases he : hasI (propL cs now) 0 with
      | true =>
        have HE := hide (show hasI (propL cs ds) 0 = true by rw [← HIT.out]; exact he)
        clear he hidem
        go_wp2
        go_ret
        exact Ret.mk (ret_b HE.out.symm) (HX0.out.trans HX3.out)
      | false =>
        have HE := hide (show hasI (propL cs ds) 0 = false by rw [← HIT.out]; exact he)
        have HID := hide hidem
        clear he hidem
        go_wp2_with fail
        refine (equalIntsS_any _ _ (propL cs now) now _ HS3.out HSW.out).mono ?_
        rintro e w4 ⟨rfl, hx4⟩
        have HX4 := hide hx4
        clear hx4
        by_cases he : propL cs now = now
        · rw [decide_eq_true he]
          clear he
          go_wp2
          go_ret
          exact Ret.mk (ret_b HE.out.symm) ((HX0.out.trans HX3.out).trans HX4.out)
        · have hlt := SubD.sum HGS.out.2.1 HGN.out.2.1 HSUB.out he
          rw [decide_eq_false he]
          clear he
          go_wp2
          go_roundg k
          case measure => omega
          case rel => exact ⟨propL cs now, HO3.out.grow HX4.out, HGS.out, by rw [HID.out, HIT.out], by omega⟩
set_option maxRecDepth 100000 in
set_option maxHeartbeats 8000000 in
theorem refuted0_any (v vl : Value) (Ae : Option Addr) (ce : Nat) (ds : List Int) (cs : List Con) (ls : List Lt) (w : World) (hM : SMod w v ds cs) (hL : SLt w vl ls) (hG : GoodD cs ds.length ds) (hok : okCl ls ds.length = true) (h4 : ds.length ≤ 4) (h1 : 0 < ds.length) :
    Calls Tryz.prog 96 #[v, .slice Ae 0 ce, vl] w (Ret (.bool (rftB cs ds ls)) w) := by
  have hM0 := hide hM
  have hL0 := hide hL
  have HG := hide hG
  have HOK := hide hok
  obtain ⟨vd, vc, rfl, hD, hC⟩ := hM
  have hD0 := hide hD
  obtain ⟨Ad, cd, rfl, -, hld⟩ := hD.form
  obtain ⟨Ac, cc, rfl, -, hlc⟩ := hC.form
  obtain ⟨Al, cl, rfl, -, hll⟩ := hL.form
  obtain ⟨w0, hw0⟩ : ∃ w0, w0 = w.alloc (.cells #[.slice Ad ds.length cd, .slice Ac cs.length cc] 32) := ⟨_, rfl⟩
  have hx0 : Ext w w0 := by rw [hw0]; exact (Ext.refl w).alloc _
  have K0 := hide (show w0.cell? ⟨w.heap.size, 0, none⟩ = some (.slice Ad ds.length cd) by rw [hw0]; go_simp)
  have K1 := hide (show w0.cell? ⟨w.heap.size, 1, none⟩ = some (.slice Ac cs.length cc) by rw [hw0]; go_simp)
  have ks : w.heap.size < w0.heap.size := by rw [hw0]; simp
  have HX0 := hide hx0
  obtain ⟨q, hq⟩ : ∃ q, q = resCL ds ls := ⟨_, rfl⟩
  have HQ := hide hq
  have hgq := rft_good hG hok
  rw [← hq] at hgq
  have HGQ := hide hgq
  have hql := hgq.1
  have HV := hide (show rftB cs ds ls = hasI (propL cs q) 0 by rw [rftB, ← hq])
  clear hD hC hL hG hok hx0 hq hgq
  go_enter Tryz.func96, Tryz.ntmps96
  go_wp2_with fail
  rw [← hw0]
  clear hw0
  refine wp_region_relT (n := 7) (ts := [7]) (sp := [RS.q [] (fun _ => .agg #[.slice Ad ds.length cd, .slice Ac cs.length cc]), RS.q [] (fun _ => .slice Ae 0 ce), RS.q [] (fun _ => .pointer (some ⟨w.heap.size, 0, none⟩)), RS.q [2] (fun _ => .slice Ad ds.length cd), RS.q [] (fun _ => .slice Al ls.length cl), RS.ow [3, 4] (q) w0, RS.q [0, 1, 5] (fun _ => .bool (rftB cs ds ls))])
    (fun W => Ext w0 W) (by kernel_rfl) (relOK (D := [[], [], [], [2], [], [3, 4], [0, 1, 5]]) rfl (by kernel_rfl) rfl) (by kernel_rfl) ((fun W W' h hx => h.trans hx)) (Ext.refl w0).drew ?steps ?ends
  case steps =>
    refine ⟨?_, ?_, ?_, ?_, ?_, ?_, ?_, trivial⟩
    · intro V τ W hC hf ht h0
      have s3 : τ 3 = .pointer (some ⟨w.heap.size, 0, none⟩) := h0 3 (by kernel_rfl)
      have k0 := (hC.cells _ _ ks).trans K0.out
      have k1 := (hC.cells _ _ ks).trans K1.out
      refine Does.val (w' := W) (v := .agg #[.slice Ad ds.length cd, .slice Ac cs.length cc]) ?_ ⟨Ext.refl W, rfl⟩
      clear h0 ht hf
      go_simp
    · intro V τ W hC hf ht h0
      have s1 : τ 1 = .slice Ae 0 ce := h0 1 (by kernel_rfl)
      refine Does.val (w' := W) (v := .slice Ae 0 ce) ?_ ⟨Ext.refl W, rfl⟩
      go_simp
    · intro V τ W hC hf ht h0
      have s3 : τ 3 = .pointer (some ⟨w.heap.size, 0, none⟩) := h0 3 (by kernel_rfl)
      refine Does.val (w' := W) (v := .pointer (some ⟨w.heap.size, 0, none⟩)) ?_ ⟨Ext.refl W, rfl⟩
      go_simp
    · intro V τ W hC hf ht h0
      have f2 : V 2 = .pointer (some ⟨w.heap.size, 0, none⟩) := hf 2 (by simp [RS.at_, RS.q, RS.ow])
      have s9 := (ht 2 (by simp [RS.at_, RS.q, RS.ow]) 9 rfl).trans f2
      have k0 := (hC.cells _ _ ks).trans K0.out
      refine Does.val (w' := W) (v := .slice Ad ds.length cd) ?_ ⟨Ext.refl W, rfl⟩
      go_simp
    · intro V τ W hC hf ht h0
      have s2 : τ 2 = .slice Al ls.length cl := h0 2 (by kernel_rfl)
      refine Does.val (w' := W) (v := .slice Al ls.length cl) ?_ ⟨Ext.refl W, rfl⟩
      go_simp
    · intro V τ W hC hf ht h0
      have f3 : V 3 = .slice Ad ds.length cd := hf 3 (by simp [RS.at_, RS.q, RS.ow])
      have f4 : V 4 = .slice Al ls.length cl := hf 4 (by simp [RS.at_, RS.q, RS.ow])
      have s10 := (ht 3 (by simp [RS.at_, RS.q, RS.ow]) 10 rfl).trans f3
      have s11 := (ht 4 (by simp [RS.at_, RS.q, RS.ow]) 11 rfl).trans f4
      refine Does.call (w' := W) (f := 36) (args := #[.slice Ad ds.length cd, .slice Al ls.length cl]) (by go_simp; all_goals (first | exact rfl | (apply And.intro <;> exact rfl))) ?_
      refine (restrictTo_any _ _ ds ls ds.length _ (hD0.out.ext (HX0.out.trans hC)) (hL0.out.ext (HX0.out.trans hC)) HG.out.dom HOK.out h1 h4).mono ?_
      rintro e wa hres
      have hr2 : OwnRes q w0 e wa := by rw [HQ.out]; exact OwnRes.from hres hC
      obtain ⟨A3, c3, b3, m3, f3, rfl, -, -, -, -, hxa⟩ := hres
      exact ⟨_, rfl, hxa, hr2⟩
    · intro V τ W hC hf ht h0
      have f0 : V 0 = .agg #[.slice Ad ds.length cd, .slice Ac cs.length cc] := hf 0 (by simp [RS.at_, RS.q, RS.ow])
      have f1 : V 1 = .slice Ae 0 ce := hf 1 (by simp [RS.at_, RS.q, RS.ow])
      have f5 : OwnRes q w0 (.returned (V 5)) W := hf 5 (by simp [RS.at_, RS.q, RS.ow])
      have s7 := (ht 0 (by simp [RS.at_, RS.q, RS.ow]) 7 rfl).trans f0
      have s8 := (ht 1 (by simp [RS.at_, RS.q, RS.ow]) 8 rfl).trans f1
      have s12 : τ 12 = V 5 := ht 5 (by simp [RS.at_, RS.q, RS.ow]) 12 rfl
      refine Does.call (w' := W) (f := 129) (args := #[.agg #[.slice Ad ds.length cd, .slice Ac cs.length cc], .slice Ae 0 ce, V 5]) (by go_simp; all_goals (first | exact rfl | (apply And.intro <;> exact rfl))) ?_
      refine (refute0_any _ _ Ae ce ds q cs _ (hM0.out.ext (HX0.out.trans hC)) (f5.ints (fun i hi => by have := HGQ.out.2.1 i hi; unfold I64; omega)) (by rw [HGQ.out.1]; exact HGQ.out) (by have := HGQ.out.1; omega) (by have := HGQ.out.1; omega)).mono ?_
      rintro e wa ⟨rfl, hxa⟩
      exact ⟨_, rfl, hxa, congrArg Value.bool HV.out.symm⟩
  case ends =>
    intro V W hC hf
    have f0 : V 0 = .agg #[.slice Ad ds.length cd, .slice Ac cs.length cc] := hf 0 (by omega)
    have f1 : V 1 = .slice Ae 0 ce := hf 1 (by omega)
    have f2 : V 2 = .pointer (some ⟨w.heap.size, 0, none⟩) := hf 2 (by omega)
    have f3 : V 3 = .slice Ad ds.length cd := hf 3 (by omega)
    have f4 : V 4 = .slice Al ls.length cl := hf 4 (by omega)
    obtain ⟨A5, c5, f5⟩ := (show OwnRes q w0 (.returned (V 5)) W from hf 5 (by omega)).form
    have f6 : V 6 = .bool (rftB cs ds ls) := hf 6 (by omega)
    rw [hql] at f5
    clear hf
    simp only [List.take_succ_cons, List.take_zero, putAll, Act.put, List.setIfInBounds_toArray, List.set_cons_succ, List.set_cons_zero, Nat.reduceAdd, f0, f1, f2, f3, f4, f5, f6]
    simp only [nths, nth1]
    clear f0 f1 f2 f3 f4 f5 f6
    have HXE := hide (HX0.out.trans hC)
    clear hC
    go_wp2
    go_ret
    exact Ret.mk rfl HXE.out
end Go.Proofs.YtepmaclbeggpfaaGreat
