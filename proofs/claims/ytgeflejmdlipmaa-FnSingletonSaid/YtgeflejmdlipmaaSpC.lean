/- fixpoint of the reference. -/
import Derived.Test.YtgeflejmdlipmaaSpB
import Derived.Test.YtgeflejmdlipmaaPropP
import Derived.Test.YtgeflejmdlipmaaProp
namespace Go.Proofs.Ytgeflejmdlipmaa
open Go.RowKit

set_option maxHeartbeats 1000000 in
theorem equalIntsS_any (v v' : Value) (xs ys : List Int) (w : World) (hS : SInts w v xs) (hS' : SInts w v' ys) :
    Calls Try.prog 60 #[v, v'] w (Ret (.bool (decide (xs = ys))) w) := by
  have hS0 := hide hS
  have hS0' := hide hS'
  obtain ⟨A, cp, rfl, hl, hlen⟩ := hS.form
  obtain ⟨A', cp', rfl, hl', -⟩ := hS'.form
  clear hS hS'
  by_cases he : xs.length = ys.length
  · have heI : ((xs.length : Int) != (ys.length : Int)) = false := by simp [he]
    have HE := hide he
    clear he
    go_enter Try.func60, Try.ntmps60
    go_wp2
    go_loopw [5] (fun i wr => ∃ k : Nat, k ≤ xs.length ∧ i = .int .i64 k ∧ Ext w wr ∧ ∀ j, j < k → at0 xs j = at0 ys j) (fun i _ => xs.length - (intOf i).toNat)
    case atStart => exact ⟨0, Nat.zero_le _, rfl, Ext.refl w, fun j hj => by omega⟩
    case round =>
      obtain ⟨k, hk, rfl, hxr, hall⟩ := hrel
      have HA := hide hall
      clear hall
      by_cases hlt : k < xs.length
      · have hlt2 : k < ys.length := by rw [← HE.out]; exact hlt
        have hltI : (k : Int) < xs.length := by omega
        have hltI2 : (k : Int) < ys.length := by omega
        obtain ⟨b, off, rfl, hbl, f1⟩ := (hS0.out.ext hxr).at_ hlt
        obtain ⟨b', off', rfl, hbl', f1'⟩ := (hS0'.out.ext hxr).at_ hlt2
        cases hd : (at0 xs k != at0 ys k) with
        | true =>
          have HD := hide (show decide (xs = ys) = false by
            rw [decide_eq_false_iff_not]; intro e; rw [e] at hd; simp at hd)
          have HX := hide hxr
          clear hxr
          go_wp2
          refine wp_region_ext (by kernel_rfl) (by kernel_rfl) ?_
          iterate 9 (apply quiet_val; (focus rfl); (focus (intro w' hw'; have hk' := hw'.cells; go_simp; all_goals exact rfl)); simp only [Act.put, List.setIfInBounds_toArray, List.set_cons_succ, List.set_cons_zero])
          refine wpQuiet_nil ?_
          intro w2 hx2
          have HX2 := hide (HX.out.trans hx2)
          clear hx2
          go_wp2
          go_ret
          exact Ret.mk (ret_b HD.out.symm) HX2.out
        | false =>
          have HD := hide (show at0 xs k = at0 ys k by simpa using hd)
          have HX := hide hxr
          clear hxr
          go_wp2
          refine wp_region_ext (by kernel_rfl) (by kernel_rfl) ?_
          iterate 9 (apply quiet_val; (focus rfl); (focus (intro w' hw'; have hk' := hw'.cells; go_simp; all_goals exact rfl)); simp only [Act.put, List.setIfInBounds_toArray, List.set_cons_succ, List.set_cons_zero])
          refine wpQuiet_nil ?_
          intro w2 hx2
          have HX2 := hide (HX.out.trans hx2)
          clear hx2
          go_wp2
          go_roundw
          case rel => exact ⟨k + 1, by omega, by go_num, HX2.out, fun j hj => by
            by_cases e : j = k
            · subst e; exact HD.out
            · exact HA.out j (by omega)⟩
          case measure => simp [intOf]; omega
      · obtain rfl : k = xs.length := by omega
        have hkI : ¬ ((xs.length : Int) < xs.length) := by omega
        have HD := hide (show decide (xs = ys) = true from decide_eq_true (at0_ext HE.out HA.out))
        go_wp2
        go_ret
        exact Ret.mk (ret_b HD.out.symm) hxr
  · have heI : ((xs.length : Int) != (ys.length : Int)) = true := by simp; omega
    have HD := hide (show decide (xs = ys) = false by
      rw [decide_eq_false_iff_not]; intro e; exact he (by rw [e]))
    clear he
    go_enter Try.func60, Try.ntmps60
    go_wp2
    go_ret
    exact Ret.mk (ret_b HD.out.symm) (Ext.refl _)
set_option maxHeartbeats 1000000 in
theorem hasEmpty_any (v : Value) (xs : List Int) (w : World) (hS : SInts w v xs) :
    Calls Try.prog 32 #[v] w fun e w' => e = .returned (.bool (hasI xs 0)) ∧ w = w' := by
  have hS0 := hide hS
  obtain ⟨A, c, rfl, -, hln⟩ := hS.form
  clear hS
  go_enter Try.func32, Try.ntmps32
  go_wp2
  go_loop [3] (fun i => ∃ k : Nat, k ≤ xs.length ∧ i = .int .i64 k ∧ ∀ j, j < k → ((0 : Int) == at0 xs j) = false) (fun i => xs.length - (intOf i).toNat)
  case atStart => exact ⟨0, Nat.zero_le _, rfl, fun j hj => by omega⟩
  case round =>
    obtain ⟨k, hk, rfl, hno⟩ := hrel
    have HNO := hide hno
    clear hno
    by_cases hlt : k < xs.length
    · obtain ⟨b, off, rfl, hbl, f1⟩ := hS0.out.at_ hlt
      have hkI : (k : Int) < xs.length := by omega
      cases hx : (at0 xs k == 0) with
      | true =>
        have HF := hide (show hasI xs 0 = true from anyB_iff.2 ⟨k, hlt, by rw [beq_iff_eq] at hx ⊢; exact hx.symm⟩)
        go_wp2
        go_ret
        exact ⟨ret_b HF.out.symm, rfl⟩
      | false =>
        have HX := hide (show ((0 : Int) == at0 xs k) = false by rw [beq_eq_false_iff_ne] at hx ⊢; exact fun h => hx h.symm)
        go_wp2
        go_round
        case rel => exact ⟨k + 1, by omega, by go_num, upto_succ HNO.out HX.out⟩
        case measure => simp [intOf]; omega
    · obtain rfl : k = xs.length := by omega
      have HF := hide (show hasI xs 0 = false from anyB_false.2 HNO.out)
      go_wp2
      go_ret
      exact ⟨ret_b HF.out.symm, rfl⟩
set_option maxRecDepth 100000 in
set_option maxHeartbeats 4000000 in
theorem isConsistentS_any (v vd : Value) (D ds : List Int) (cs : List Con) (w : World) (hM : SMod w v D cs) (hD : SInts w vd ds) (hG : GoodD cs ds.length ds) :
    Calls Try.prog 81 #[v, vd] w (Ret (.bool (conB cs ds)) w) := by
  obtain ⟨ve, vc, rfl, hE, hC⟩ := hM
  have HG := hide hG
  obtain ⟨Ae, ce, rfl, -, hle⟩ := hE.form
  obtain ⟨Ac, cc, rfl, -, hlc⟩ := hC.form
  obtain ⟨Ad, cd, rfl, -, hld⟩ := hD.form
  obtain ⟨w0, hw0⟩ : ∃ w0, w0 = w.alloc (.cells #[.slice Ae D.length ce, .slice Ac cs.length cc] 26) := ⟨_, rfl⟩
  have hx0 : Ext w w0 := by rw [hw0]; exact (Ext.refl w).alloc _
  have k1 : w0.cell? ⟨w.heap.size, 1, none⟩ = some (.slice Ac cs.length cc) := by rw [hw0]; go_simp
  have ks : w.heap.size < w0.heap.size := by rw [hw0]; simp
  have HX0 := hide hx0
  have K1 := hide k1
  have hC0 := hide (hC.ext hx0)
  have hD0 := hide (hD.ext hx0)
  clear hE hC hD hG hx0 k1
  go_enter Try.func81, Try.ntmps81
  go_wp2
  rw [← hw0]
  clear hw0
  go_loopw [5] (fun i wr => ∃ k : Nat, i = .int .i64 k ∧ k ≤ cs.length ∧ Ext w0 wr ∧ ∀ j, j < k → decide (filtL (con0 cs j) ds ≠ ds) = false) (fun i _ => cs.length - (intOf i).toNat)
  case atStart => exact ⟨0, rfl, Nat.zero_le _, Ext.refl _, fun j hj => by omega⟩
  case round =>
    obtain ⟨k, rfl, hk, hx, hno⟩ := hrel
    have HX := hide hx
    have HNO := hide hno
    have k1 := (hx.cells _ _ ks).trans K1.out
    have ksr := Nat.lt_of_lt_of_le ks hx.size
    clear hno
    by_cases hlt : k < cs.length
    · have hkI : (k : Int) < cs.length := by omega
      obtain ⟨b, off, rfl, hbl, vv, va, vr, f1, f2, f3, f4, f5, s1, s2, s3⟩ := (hC0.out.ext hx).at_ hlt
      obtain ⟨Av, cv, rfl, -, -⟩ := s1.form
      obtain ⟨Aa, ca, rfl, -, -⟩ := s2.form
      obtain ⟨Ar, cr, rfl, -, -⟩ := s3.form
      have HC := hide (show SCon wr (.agg #[.int .i64 (con0 cs k).kk, .slice Av (con0 cs k).vars.length cv, .slice Aa (con0 cs k).args.length ca, .int .i64 (con0 cs k).bound, .slice Ar (con0 cs k).rows.length cr]) (con0 cs k) from ⟨_, _, _, rfl, s1, s2, s3⟩)
      have HV := hide (HG.out.2.2 k hlt)
      clear s1 s2 s3 hx
      go_wp2_with fail
      refine (supported_any _ _ (con0 cs k) ds _ HC.out (hD0.out.ext HX.out) HV.out HG.out.2.1).mono ?_
      rintro e w2 ⟨A2, c2, b2, m2, g2, rfl, hc2, hb2, hn2, ho2, hx2⟩
      have hfl : (filtL (con0 cs k) ds).length = ds.length := filtP_len _ _ _
      have hG2 := (HG.out.filt (i := k) hlt).1
      have HS2 := hide (SInts.own hc2 hb2 ho2 (fun i hi => by have := hG2.2.1 i hi; unfold I64; omega))
      have HX2 := hide (HX.out.trans hx2)
      have hsx2 := hx2.size
      have k1 := (hx2.cells _ _ ksr).trans k1
      have ksr := Nat.lt_of_lt_of_le ksr hx2.size
      rw [hfl] at HS2 ⊢
      clear hx2 ho2 hG2 hfl hb2 hc2
      go_wp2_with fail
      refine (equalIntsS_any _ _ (filtL (con0 cs k) ds) ds _ HS2.out (hD0.out.ext HX2.out)).mono ?_
      rintro e w3 ⟨rfl, hx3⟩
      have HX3 := hide (HX2.out.trans hx3)
      clear hx3
      by_cases he : filtL (con0 cs k) ds = ds
      · have HE := hide (show decide (filtL (con0 cs k) ds ≠ ds) = false by simpa using he)
        rw [decide_eq_true he]
        clear he
        go_wp2
        go_roundw
        case rel => exact ⟨k + 1, by go_num, by omega, HX3.out, upto_succ HNO.out HE.out⟩
        case measure => simp [intOf]; omega
      · have HE := hide (show conB cs ds = false by
          rw [conB, anyB_iff.2 ⟨k, hlt, by simpa using he⟩]; rfl)
        rw [decide_eq_false he]
        clear he
        go_wp2
        go_ret
        exact Ret.mk (ret_b HE.out.symm) (HX0.out.trans HX3.out)
    · obtain rfl : k = cs.length := by omega
      have hkI : ¬ ((cs.length : Int) < cs.length) := by omega
      have HE := hide (show conB cs ds = true by rw [conB, anyB_false.2 HNO.out]; rfl)
      go_wp2
      go_ret
      exact Ret.mk (ret_b HE.out.symm) (HX0.out.trans HX.out)
end Go.Proofs.Ytgeflejmdlipmaa
/- fixpoint of the reference: the walk. -/
namespace Go.Proofs.Ytgeflejmdlipmaa
open Go.RowKit

theorem fixL_empty {st : List Int → List Int} {k : Nat} {ds : List Int} (h : hasI ds 0 = true) : fixL st (k + 1) ds = zer ds.length := by rw [fixL, if_pos h]
theorem fixL_done {st : List Int → List Int} {k : Nat} {ds : List Int} (h : hasI ds 0 = false) (h2 : st ds = ds) : fixL st (k + 1) ds = ds := by rw [fixL, h, if_neg (by simp), if_pos h2]
theorem fixL_on {st : List Int → List Int} {k : Nat} {ds : List Int} (h : hasI ds 0 = false) (h2 : st ds ≠ ds) : fixL st (k + 1) ds = fixL st k (st ds) := by rw [fixL, h, if_neg (by simp), if_neg h2]
theorem GoodD.i64 {cs : List Con} {n : Nat} {ds : List Int} (h : GoodD cs n ds) : ∀ i, i < ds.length → I64 (at0 ds i) := fun i hi => by have := h.2.1 i hi; unfold I64; omega
/-- A result of its own reads. -/
theorem OwnRes.ints {xs : List Int} {w w' : World} {v : Value} (h : OwnRes xs w (.returned v) w') (hb : ∀ i, i < xs.length → I64 (at0 xs i)) : SInts w' v xs := by
  obtain ⟨A, c, b, m, f, h1, h2, h3, h4, h5, h6⟩ := h
  injection h1 with h1
  subst h1
  exact SInts.own h2 h3 h5 hb
theorem OwnRes.form {xs : List Int} {w w' : World} {v : Value} (h : OwnRes xs w (.returned v) w') : ∃ A c, v = .slice A xs.length c := by
  obtain ⟨A, c, b, m, f, h1, -⟩ := h
  injection h1 with h1
  exact ⟨A, c, h1⟩
theorem OwnRes.ext0 {xs : List Int} {w w' : World} {e : Ending} (h : OwnRes xs w e w') : Ext w w' := by
  obtain ⟨A, c, b, m, f, h1, h2, h3, h4, h5, h6⟩ := h
  exact h6
theorem OwnRes.from {xs : List Int} {w w1 w' : World} {e : Ending} (h : OwnRes xs w1 e w') (hx : Ext w w1) : OwnRes xs w e w' := by
  obtain ⟨A, c, b, m, f, h1, h2, h3, h4, h5, h6⟩ := h
  exact ⟨A, c, b, m, f, h1, h2, h3, Nat.le_trans hx.size h4, h5, hx.trans h6⟩
theorem zer_own {w w' : World} {b n : Nat} (hr : w'.rowIs b 3 n (fun _ => .int .i64 0)) (hb : w.heap.size ≤ b) (hx : Ext w w') (h4 : n ≤ 4) : OwnRes (zer n) w (.returned (.slice (some ⟨b, 0, none⟩) n n)) w' :=
  ⟨_, n, b, n, _, by rw [zer_len], by rw [zer_len]; exact Nat.le_refl _, by rw [zer_len]; omega, hb, fun _ => ⟨rfl, hr, by rw [zer_len]; exact Nat.le_refl _, fun i _ => by rw [zer_at]⟩, hx⟩
set_option maxRecDepth 100000 in
set_option maxHeartbeats 8000000 in
theorem fixpointS_any (v vd : Value) (D ds : List Int) (cs : List Con) (w : World) (hM : SMod w v D cs) (hD : SInts w vd ds) (hG : GoodD cs ds.length ds) (h4 : ds.length ≤ 4) (h1 : 0 < ds.length) :
    Calls Try.prog 54 #[v, vd] w (OwnRes (propL cs ds) w) := by
  obtain ⟨ve, vc, rfl, hE, hC⟩ := hM
  have HG := hide hG
  obtain ⟨Ae, ce, rfl, -, hle⟩ := hE.form
  obtain ⟨Ac, cc, rfl, -, hlc⟩ := hC.form
  obtain ⟨Ad, cd, rfl, -, hld⟩ := hD.form
  obtain ⟨w0, hw0⟩ : ∃ w0, w0 = w.alloc (.cells #[.slice Ae D.length ce, .slice Ac cs.length cc] 26) := ⟨_, rfl⟩
  have hx0 : Ext w w0 := by rw [hw0]; exact (Ext.refl w).alloc _
  have k0 : w0.cell? ⟨w.heap.size, 0, none⟩ = some (.slice Ae D.length ce) := by rw [hw0]; go_simp
  have k1 : w0.cell? ⟨w.heap.size, 1, none⟩ = some (.slice Ac cs.length cc) := by rw [hw0]; go_simp
  have ks : w.heap.size < w0.heap.size := by rw [hw0]; simp
  have HX0 := hide hx0
  have K0 := hide k0
  have K1 := hide k1
  have hE0 := hide (hE.ext hx0)
  have hC0 := hide (hC.ext hx0)
  have hD0 := hide (hD.ext hx0)
  clear hE hC hD hG hx0 k0 k1
  go_enter Try.func54, Try.ntmps54
  go_wp2_with fail
  rw [← hw0]
  clear hw0
  refine (copyInts_any _ ds _ hD0.out h1).mono ?_
  rintro e w1 ⟨A1, c1, b1, m1, f1, rfl, hc1, hb1, hn1, ho1, hx1⟩
  have HO := hide (show OwnRes ds w0 (.returned (.slice A1 ds.length c1)) w1 from ⟨A1, c1, b1, m1, f1, rfl, hc1, hb1, hn1, ho1, hx1⟩)
  obtain ⟨n, hn⟩ : ∃ n, n = ds.length := ⟨_, rfl⟩
  have HN := hide hn
  rw [← hn] at h4 h1 HO HG ⊢
  clear hn ho1 hx1 hb1 hn1
  go_wp2_with fail
  go_loopg [5] 300 (fun gk v wr => ∃ now : List Int, now.length = n ∧ OwnRes now w0 (.returned v) wr ∧ GoodD cs n now ∧ fixL (stepL cs) gk now = propL cs ds ∧ sumL now < gk)
  case atStart => exact ⟨ds, HN.out.symm, HO.out, HG.out, rfl, by have := sumL_bd ds HG.out.2.1; have := HN.out; omega⟩
  case round =>
    obtain ⟨now, hnl, how, hgn, hR, hsum⟩ := hrel
    obtain ⟨A, cc2, rfl⟩ := how.form
    have HOW := hide how
    have HGN := hide hgn
    have HR := hide hR
    have HNL := hide hnl
    have HS := hide (how.ints hgn.i64)
    have hx := how.ext0
    have HX := hide hx
    have k0 := (hx.cells _ _ ks).trans K0.out
    have k1 := (hx.cells _ _ ks).trans K1.out
    have ksr := Nat.lt_of_lt_of_le ks hx.size
    have hsb := (sumL_bd now hgn.2.1).1
    obtain ⟨k, rfl⟩ : ∃ k, gk = k + 1 := ⟨gk - 1, by omega⟩
    rw [hnl] at HS HOW ⊢
    clear hgn hR hx how hnl
    go_wp2_with fail
    refine (isConsistentS_any _ _ D now cs _ ⟨_, _, rfl, hE0.out.ext HX.out, hC0.out.ext HX.out⟩ HS.out (by rw [HNL.out]; exact HGN.out)).mono ?_
    rintro e w2 ⟨rfl, hx2⟩
    have HX2 := hide (HX.out.trans hx2)
    have HOW2 := hide (HOW.out.grow hx2)
    have HS2 := hide (HS.out.ext hx2)
    have k1 := (hx2.cells _ _ ksr).trans k1
    have ksr := Nat.lt_of_lt_of_le ksr hx2.size
    clear hx2 k0
    cases hcb : conB cs now with
    | true =>
      have hst : stepL cs now = now := (conB_iff HGN.out).1 hcb
      clear hcb
      cases h0 : hasI now 0 with
      | true =>
        have H0 := hide h0
        have HZ := hide (show propL cs ds = zer n by rw [← HR.out, fixL_empty h0, HNL.out])
        clear h0 hst
        go_wp2_with (first | (go_at_call 32; refine (hasEmpty_any _ now _ HS2.out).mono ?_; rintro e w' ⟨rfl, rfl⟩; rw [H0.out]) | (at_make; go_must (refine wpList_make_gen _ rfl _ _ 23 rfl 3 (.int .i64 0) 1 8 Try.underlying23 Try.infoI .i64 .i64 n rfl rfl (by omega) (by omega) (fun _ => .int .i64 0) (fun i _ => by simp [Value.cells, Nat.mod_one]) ?_); intro w3 hrow3 hsz3 hx3; rw [Nat.mul_one] at hrow3; have HROW := hide hrow3; have HX3 := hide hx3; clear hrow3 hx3 hsz3))
        go_ret
        rw [HZ.out]
        exact zer_own HROW.out (HX0.out.trans HX2.out).size ((HX0.out.trans HX2.out).trans HX3.out) h4
      | false =>
        have H0 := hide h0
        have HZ := hide (show propL cs ds = now by rw [← HR.out, fixL_done h0 hst])
        clear h0 hst
        go_wp2_with (go_at_call 32; refine (hasEmpty_any _ now _ HS2.out).mono ?_; rintro e w' ⟨rfl, rfl⟩; rw [H0.out])
        go_ret
        rw [HZ.out]
        exact HOW2.out.from HX0.out
    | false =>
      have hne : stepL cs now ≠ now := fun h => by rw [(conB_iff HGN.out).2 h] at hcb; cases hcb
      clear hcb
      cases h0 : hasI now 0 with
      | true =>
        have H0 := hide h0
        have HZ := hide (show propL cs ds = zer n by rw [← HR.out, fixL_empty h0, HNL.out])
        clear h0 hne
        go_wp2_with (first | (go_at_call 32; refine (hasEmpty_any _ now _ HS2.out).mono ?_; rintro e w' ⟨rfl, rfl⟩; rw [H0.out]) | (at_make; go_must (refine wpList_make_gen _ rfl _ _ 23 rfl 3 (.int .i64 0) 1 8 Try.underlying23 Try.infoI .i64 .i64 n rfl rfl (by omega) (by omega) (fun _ => .int .i64 0) (fun i _ => by simp [Value.cells, Nat.mod_one]) ?_); intro w3 hrow3 hsz3 hx3; rw [Nat.mul_one] at hrow3; have HROW := hide hrow3; have HX3 := hide hx3; clear hrow3 hx3 hsz3))
        go_ret
        rw [HZ.out]
        exact zer_own HROW.out (HX0.out.trans HX2.out).size ((HX0.out.trans HX2.out).trans HX3.out) h4
      | false =>
        have H0 := hide h0
        have HZ := hide (show fixL (stepL cs) k (stepL cs now) = propL cs ds by rw [← HR.out, fixL_on h0 hne])
        have hst := stepOK cs n
        have HLT := hide (SubD.sum (hst.dom _ (hst.stay now HGN.out)) (hst.dom now HGN.out) (hst.sub now HGN.out) hne)
        clear h0 hne hst
        obtain ⟨W2, rfl⟩ : ∃ W2, W2 = w2 := ⟨w2, rfl⟩
        go_wp2_with (go_at_call 32; refine (hasEmpty_any _ now _ HS2.out).mono ?_; rintro e w' ⟨rfl, rfl⟩; rw [H0.out])
        go_loopw [5, 6] (fun d i wr => ∃ j : Nat, i = .int .i64 j ∧ j ≤ cs.length ∧ OwnRes (stepK cs now j) w0 (.returned d) wr) (fun _ i _ => cs.length - (intOf i).toNat)
        case atStart => exact ⟨0, rfl, Nat.zero_le _, HOW2.out⟩
        case round =>
          obtain ⟨j, rfl, hj, how⟩ := hrel
          obtain ⟨Gj, Sj⟩ := HGN.out.stepK j hj
          obtain ⟨A3, c3, rfl⟩ := how.form
          have hx := how.ext0
          have HXJ := hide hx
          have HSJ := hide (how.ints Gj.i64)
          have HOJ := hide how
          have HGJ := hide Gj
          have k1 := (hx.cells _ _ ks).trans K1.out
          have ksr := Nat.lt_of_lt_of_le ks hx.size
          rw [Gj.1] at HSJ HOJ ⊢
          clear how Gj Sj
          by_cases hlt : j < cs.length
          · have hjI : (j : Int) < cs.length := by omega
            obtain ⟨b, off, rfl, hbl, vv, va, vr, f1, f2, f3, f4, f5, s1, s2, s3⟩ := (hC0.out.ext hx).at_ hlt
            obtain ⟨Av, cv, rfl, -, -⟩ := s1.form
            obtain ⟨Aa, ca, rfl, -, -⟩ := s2.form
            obtain ⟨Ar, cr, rfl, -, -⟩ := s3.form
            have HC := hide (show SCon _ (.agg #[.int .i64 (con0 cs j).kk, .slice Av (con0 cs j).vars.length cv, .slice Aa (con0 cs j).args.length ca, .int .i64 (con0 cs j).bound, .slice Ar (con0 cs j).rows.length cr]) (con0 cs j) from ⟨_, _, _, rfl, s1, s2, s3⟩)
            have HV := hide (show vCon (con0 cs j) (stepK cs now j).length = true by rw [HGJ.out.1]; exact HG.out.2.2 j hlt)
            clear s1 s2 s3 hx
            go_wp2_with fail
            refine (supported_any _ _ (con0 cs j) (stepK cs now j) _ HC.out (by have := HSJ.out; exact this) HV.out HGJ.out.2.1).mono ?_
            rintro e w5 hres
            have HRES := hide (show OwnRes (stepK cs now (j + 1)) w0 e w5 from OwnRes.from hres HXJ.out)
            obtain ⟨A5, c5, b5, m5, f5, rfl, -⟩ := hres
            obtain ⟨L, hL⟩ : ∃ L, L = (filtL (con0 cs j) (stepK cs now j)).length := ⟨_, rfl⟩
            rw [← hL] at HRES ⊢
            clear hL
            go_wp2_with fail
            go_roundw
            case rel => exact ⟨j + 1, by go_num, by omega, HRES.out⟩
            case measure => simp [intOf]; omega
          · obtain rfl : j = cs.length := by omega
            have hjI : ¬ ((cs.length : Int) < cs.length) := by omega
            have HST := hide (show (stepL cs now).length = n from HGJ.out.1)
            go_wp2_with fail
            go_roundg k
            case measure => omega
            case rel => exact ⟨stepL cs now, HST.out, HOJ.out, HGJ.out, HZ.out, by have := HLT.out; omega⟩
end Go.Proofs.Ytgeflejmdlipmaa
