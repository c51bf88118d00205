/- The program's TimetableFilter. Printed by gentti.py. -/
import Derived.Test.YtjpdebgejlfeaaaDoorTtP
import Derived.Test.YtjpdebgejlfeaaaDoorQ12
import Derived.Test.YtjpdebgejlfeaaaDoorCompI
import Derived.Test.YtjpdebgejlfeaaaDoorLwsA
import Derived.Deep.CutBlock
import Derived.Deep.DeepCutAuto
namespace Go.Proofs.YtjpdebgejlfeaaaDoor
open Go.RowKit

set_option maxRecDepth 100000 in
set_option maxHeartbeats 4000000 in
theorem fixpointZ_any (vd : Value) (ds : List Int) (gf : Nat) (caps : Array Value) (st : List Int → List Int) (G : List Int → Prop) (w : World) (hD : SInts w vd ds) (hG : G ds) (hst : StOK st G ds.length) (h4 : ds.length ≤ 4) (h1 : 0 < ds.length)
    (hg : ∀ args W, (callFunc gf args).run Tryd.prog W = .ok (.enter gf args) W) (hs : Hid (∀ now v' W, Ext w W → SInts W v' now → G now → hasI now 0 = false → Calls Tryd.prog gf (#[v'] ++ caps) W (OwnOr v' now (st now) W))) :
    Calls Tryd.prog 25 #[vd, .func (.func gf) #[] caps] w (OwnRes (fixL st 300 ds) w) := by
  have hD0 := hide hD
  have HST := hide hst
  have HGD := hide hG
  obtain ⟨Ad, cd, rfl, -, hld⟩ := hD.form
  clear hD hst hG
  go_enter Tryd.func25, Tryd.ntmps25
  go_wp2_with fail
  refine (copied_any _ ds _ hD0.out).mono ?_
  rintro e w1 ⟨A1, c1, b1, m1, f1, rfl, hc1, hb1, hn1, ho1, hx1⟩
  have HO := hide (show OwnRes ds w (.returned (.slice A1 ds.length c1)) w1 from ⟨A1, c1, b1, m1, f1, rfl, hc1, hb1, hn1, ho1, hx1⟩)
  obtain ⟨n, hn⟩ : ∃ n, n = ds.length := ⟨_, rfl⟩
  have HN := hide hn
  rw [← hn] at h4 h1 HO ⊢
  clear hn ho1 hx1 hb1 hn1
  go_wp2
  go_loopg [5] 300 (fun gk v wr => ∃ now : List Int, now.length = n ∧ OwnRes now w (.returned v) wr ∧ G now ∧ fixL st gk now = fixL st 300 ds ∧ sumL now < gk)
  case atStart => exact ⟨ds, HN.out.symm, HO.out, HGD.out, rfl, by have := sumL_bd ds (HST.out.dom ds HGD.out); have := HN.out; omega⟩
  case round =>
    obtain ⟨now, hnl, ⟨A, cc, b, m, f, hv, hc, hb, hnb, ho, hx⟩, hgn, hR, hsum⟩ := hrel
    injection hv with hv
    subst hv
    have HS := hide (SInts.own hc hb ho (HST.out.i64 now hgn))
    have HOW := hide (show OwnRes now w (.returned (.slice A now.length cc)) wr from ⟨A, cc, b, m, f, rfl, hc, hb, hnb, ho, hx⟩)
    have HGN := hide hgn
    have HR := hide hR
    have HX := hide hx
    have HNL := hide hnl
    have hsb := (sumL_bd now (HST.out.dom now hgn)).1
    obtain ⟨k, rfl⟩ : ∃ k, gk = k + 1 := ⟨gk - 1, by omega⟩
    rw [hnl] at HS HOW ⊢
    clear hgn hR hx ho hnb hnl hc
    cases h0 : hasI now 0 with
    | true =>
      have H0 := hide h0
      have HZ := hide (show fixL st 300 ds = zer n by rw [← HR.out, fixL, if_pos h0, HNL.out])
      clear h0
      go_wp2_with (first | (go_at_call 43; refine (Contains_any _ now _ _ HS.out).mono ?_; rintro e w' ⟨rfl, rfl⟩; rw [H0.out]) | (at_make; go_must (refine wpList_make_gen _ rfl _ _ 24 rfl 3 (.int .i64 0) 1 8 Tryd.underlying24 Tryd.infoI .i64 .i64 n rfl rfl (by omega) (by omega) (fun _ => .int .i64 0) (fun i _ => by simp [Value.cells, Nat.mod_one]) ?_); intro w3 hrow3 hsz3 hx3; rw [Nat.mul_one] at hrow3; have HROW := hide hrow3; have HX3 := hide hx3; clear hrow3 hsz3 hx3))
      go_ret
      rw [HZ.out]
      exact (show OwnRes (zer n) w (.returned (.slice (some ⟨wr.heap.size, 0, none⟩) n n)) w3 from ⟨some ⟨wr.heap.size, 0, none⟩, n, wr.heap.size, n, _, by rw [zer_len], by rw [zer_len]; exact Nat.le_refl _, by rw [zer_len]; omega, HX.out.size, fun _ => ⟨rfl, HROW.out, by rw [zer_len]; exact Nat.le_refl _, fun i _ => by rw [zer_at]⟩, HX.out.trans HX3.out⟩)
    | false =>
      have H0 := hide h0
      clear h0
      go_wp2_with (go_at_call 43; refine (Contains_any _ now _ _ HS.out).mono ?_; rintro e w' ⟨rfl, rfl⟩; rw [H0.out])
      refine (hs.out now _ _ HX.out HS.out HGN.out H0.out).mono ?_
      rintro e w3 (hown | ⟨rfl, heq, hx3⟩)
      · obtain ⟨A3, c3, b3, m3, f3, rfl, hc3, hb3, hn3, ho3, hx3⟩ := hown
        have hl3 : (st now).length = n := by rw [(HST.out.sub now HGN.out).len, HNL.out]
        have HS3 := hide (SInts.own hc3 hb3 ho3 (HST.out.i64 _ (HST.out.stay now HGN.out)))
        have HO3 := hide (show OwnRes (st now) w (.returned (.slice A3 (st now).length c3)) w3 from ⟨A3, c3, b3, m3, f3, rfl, hc3, hb3, Nat.le_trans HX.out.size hn3, ho3, HX.out.trans hx3⟩)
        have HOW3 := hide (HOW.out.grow hx3)
        have HS2 := hide (HS.out.ext hx3)
        have HX3 := hide hx3
        have HL3 := hide hl3
        rw [hl3] at HS3 HO3 ⊢
        clear hx3 ho3 hn3 hb3 hc3 hl3
        go_wp2_with fail
        refine (EqualI_any _ _ (st now) now _ HS3.out HS2.out).mono ?_
        rintro e w4 ⟨rfl, hx4⟩
        have HX4 := hide hx4
        clear hx4
        by_cases he : st now = now
        · have HE := hide (show fixL st 300 ds = now by rw [← HR.out, fixL, if_neg (by rw [H0.out]; simp), if_pos he])
          rw [decide_eq_true he]
          clear he
          go_wp2
          go_ret
          rw [HE.out]
          exact HOW3.out.grow HX4.out
        · have HE := hide (show fixL st 300 ds = fixL st k (st now) by rw [← HR.out, fixL, if_neg (by rw [H0.out]; simp), if_neg he])
          have hlt := SubD.sum (HST.out.dom _ (HST.out.stay now HGN.out)) (HST.out.dom now HGN.out) (HST.out.sub now HGN.out) he
          rw [decide_eq_false he]
          have HLT := hide hlt
          clear he hlt
          go_wp2
          go_roundg k
          case measure => omega
          case rel => exact ⟨st now, HL3.out, HO3.out.grow HX4.out, HST.out.stay now HGN.out, HE.out.symm, by have := HLT.out; omega⟩
      · have HOW3 := hide (HOW.out.grow hx3)
        have HS2 := hide (HS.out.ext hx3)
        have HE := hide (show fixL st 300 ds = now by rw [← HR.out, fixL, if_neg (by rw [H0.out]; simp), if_pos heq])
        clear hx3 heq
        go_wp2_with fail
        refine (EqualI_any _ _ now now _ HS2.out HS2.out).mono ?_
        rintro e w4 ⟨rfl, hx4⟩
        have HX4 := hide hx4
        have htt : decide (now = now) = true := by simp
        rw [htt]
        clear hx4 htt
        go_wp2
        go_ret
        rw [HE.out]
        exact HOW3.out.grow HX4.out
theorem domL_endsT {n : Nat} (h1 : 1 ≤ n) (h2 : n ≤ 63) : True ∧ True ∧ True ∧ lowB n < 6 ∧ topB n < 6 := by
  have key : ((List.range 64).all fun i => decide (lowB i < 6) && decide (topB i < 6)) = true := by decide +kernel
  rw [List.all_eq_true] at key
  have k1 := key n (List.mem_range.2 (by omega))
  simp only [Bool.and_eq_true, decide_eq_true_eq] at k1
  exact ⟨trivial, trivial, trivial, k1.1, k1.2⟩
theorem ttK_bd {ts : List Tk} (hm : ∀ i, i < ts.length → 0 ≤ tkM ts i ∧ tkM ts i ≤ 9) (ds : List Int) (i : Nat) (t : Int) : ∀ k, k ≤ ts.length → 0 ≤ ttK ts ds i t k ∧ ttK ts ds i t k ≤ 9 * k
  | 0, _ => by simp [ttK]
  | k + 1, hk => by
    have ih := ttK_bd hm ds i t k (by omega)
    have := hm k (by omega)
    rw [ttK]
    split <;> omega
set_option maxRecDepth 100000 in
set_option maxHeartbeats 8000000 in
theorem crowded_any (v vd : Value) (ts : List Tk) (ds : List Int) (c : Int) (i a : Nat) (w : World) (hS : STasks w v ts) (hD : SInts w vd ds) (hv : vTks ts = true) (hl : ds.length = ts.length) (hd : ∀ k, k < ds.length → 1 ≤ at0 ds k ∧ at0 ds k ≤ 63) (hi : i < ts.length) (ha : a < 6) (hT : TzTab w) (hb : 1 < w.heap.size) :
    Calls Tryd.prog 30 #[v, vd, .int .i64 c, .int .i64 i, .int .i64 a] w (Ret (.bool (crB ts c ds i a)) w) := by
  have HS := hide hS
  have HD := hide hD
  have HT := hide hT
  obtain ⟨At, ct, rfl, -, -⟩ := hS.form
  obtain ⟨Ad, cd, rfl, -, -⟩ := hD.form
  obtain ⟨hn1, hn4, hbits⟩ := vTks_bits hv
  have HBT := hide hbits
  have HDB := hide hd
  have HL := hide hl
  have hbi := hbits i hi
  obtain ⟨bt, ot, rfl, hbt, hcells⟩ := hS.at_ hi
  have HCE := hide hcells
  obtain ⟨dur, hdur⟩ : ∃ dur : Nat, tkD ts i = dur := ⟨(tkD ts i).toNat, by omega⟩
  obtain ⟨dem, hdem⟩ : ∃ dem : Int, tkM ts i = dem := ⟨_, rfl⟩
  have HDU := hide hdur
  have HDE := hide hdem
  have hdl : 1 ≤ dur ∧ dur ≤ 6 := by omega
  have hml : 0 ≤ dem ∧ dem ≤ 9 := by omega
  have hiI : (i : Int) < ts.length := by omega
  clear hS hD hT hv hl hd hbits hbi hcells hdur hdem
  go_enter Tryd.func30, Tryd.ntmps30
  go_wp2_with fail
  go_loopw [11] (fun tv wr => ∃ j : Nat, tv = .int .i64 ((a + j : Nat) : Int) ∧ j ≤ dur ∧ (∀ j', j' < j → ¬ c < dem + ttK ts ds i ((a + j' : Nat) : Int) ts.length) ∧ Ext w wr) (fun tv _ => a + dur - (intOf tv).toNat)
  case atStart => exact ⟨0, rfl, Nat.zero_le _, fun j' h => absurd h (by omega), Ext.refl w⟩
  case round =>
    obtain ⟨j, hjv, hj, hno, hx⟩ := hrel
    obtain ⟨t, ht⟩ : ∃ t : Nat, t = a + j := ⟨_, rfl⟩
    rw [← ht] at hjv
    subst hjv
    obtain ⟨W0, hW0⟩ : ∃ W0, W0 = wr := ⟨wr, rfl⟩
    subst hW0
    have HX := hide hx
    have HNO := hide hno
    have HTJ := hide ht
    have htb : t ≤ 11 := by omega
    have c1 := (hx.cells _ _ hbt).trans HCE.out.2.1
    have c2 := (hx.cells _ _ hbt).trans HCE.out.2.2
    rw [HDU.out] at c1
    rw [HDE.out] at c2
    have hbw := Nat.lt_of_lt_of_le hbt hx.size
    clear hno
    by_cases hjd : j < dur
    · have htI : (t : Int) < (a : Int) + dur := by omega
      clear ht hx
      go_wp2_with fail
      go_loopw [12, 34] (fun sv k wr => ∃ q : Nat, k = .int .i64 q ∧ q ≤ ts.length ∧ sv = .int .i64 (dem + ttK ts ds i t q) ∧ Ext W0 wr) (fun _ k _ => ts.length - (intOf k).toNat)
      case atStart => exact ⟨0, rfl, Nat.zero_le _, by simp [ttK], Ext.refl _⟩
      case round =>
        clear c1 c2
        obtain ⟨q, rfl, hq, hsv, hx⟩ := hrel
        obtain ⟨s, hs⟩ : ∃ s : Int, s = dem + ttK ts ds i t q := ⟨_, rfl⟩
        rw [← hs] at hsv
        subst hsv
        have hkb := ttK_bd (fun k hk => ⟨(HBT.out k hk).2.2.2.2.1, (HBT.out k hk).2.2.2.2.2⟩) ds i (t : Int) q hq
        have hsb : 0 ≤ s ∧ s ≤ 60 := by omega
        obtain ⟨W1, hW1⟩ : ∃ W1, W1 = wr := ⟨wr, rfl⟩
        subst hW1
        have HX1 := hide (HX.out.trans hx)
        have HXL := hide hx
        have HSV := hide hs
        clear hs hx hkb
        by_cases hqn : q < ts.length
        · have hqI : (q : Int) < ts.length := by omega
          have hqd : q < ds.length := by rw [HL.out]; exact hqn
          have hqdI : (q : Int) < ds.length := by omega
          obtain ⟨bq, oq, e9, hbq, f0, f1, f2⟩ := HS.out.at_ hqn
          injection e9 with e9
          injection e9 with e9 e10 _
          subst e9 e10
          have f0 := (HX1.out.cells _ _ hbt).trans f0
          have f1 := (HX1.out.cells _ _ hbt).trans f1
          have f2 := (HX1.out.cells _ _ hbt).trans f2
          have hbq1 := Nat.lt_of_lt_of_le hbt HX1.out.size
          have hbb := HBT.out q hqn
          obtain ⟨sq, hsq⟩ : ∃ x, x = tkS ts q := ⟨_, rfl⟩
          obtain ⟨dq, hdq⟩ : ∃ x, x = tkD ts q := ⟨_, rfl⟩
          obtain ⟨mq, hmq⟩ : ∃ x, x = tkM ts q := ⟨_, rfl⟩
          rw [← hsq] at f0 hbb
          rw [← hdq] at f1 hbb
          rw [← hmq] at f2 hbb
          have HDQ := hide hdq
          have HMQ := hide hmq
          obtain ⟨bd, od, rfl, hbd, fd⟩ := HD.out.at_ hqd
          have hdk := HDB.out q hqd
          obtain ⟨dk, hdkv⟩ : ∃ dk : Nat, at0 ds q = dk := ⟨(at0 ds q).toNat, by omega⟩
          rw [hdkv] at fd hdk
          have hk1 : 1 ≤ dk := by omega
          have hk2 : dk ≤ 63 := by omega
          have HDK := hide hdkv
          have fd := (HX1.out.cells _ _ hbd).trans fd
          have hbd1 := Nat.lt_of_lt_of_le hbd HX1.out.size
          have hlw : lowB dk < 6 ∧ topB dk < 6 := by obtain ⟨-, -, -, q1, q2⟩ := domL_endsT hk1 hk2; exact ⟨q1, q2⟩
          clear hsq hdq hmq hdkv hdk
          have hwq : IntKind.i64.wrap ((lowB dk : Int) + dq) = (lowB dk : Int) + dq := IntWalk.i64_in _ (by omega)
          have hws : IntKind.i64.wrap (s + mq) = s + mq := IntWalk.i64_in _ (by omega)
          have HNX := hide (show dem + ttK ts ds i t (q + 1) = s + (if q ≠ i ∧ (topB dk : Int) ≤ (t : Int) ∧ (t : Int) < (lowB dk : Int) + dq then mq else 0) by rw [ttK, HDK.out, Int.toNat_natCast, ← HDQ.out, ← HMQ.out, HSV.out, Int.add_assoc])
          go_upto_region 8 with fail
          obtain ⟨WB, hWB⟩ : ∃ x, x = W1.alloc (.cells #[.int .i64 sq, .int .i64 dq, .int .i64 mq] 42) := ⟨_, rfl⟩
          obtain ⟨bx, hbx9⟩ : ∃ x, x = W1.heap.size := ⟨_, rfl⟩
          have hxb : Ext W1 WB := by rw [hWB]; exact (Ext.refl W1).alloc _
          have t1 : WB.cell? ⟨bx, 1, none⟩ = some (.int .i64 dq) := by rw [hWB, hbx9]; go_simp
          have t2 : WB.cell? ⟨bx, 2, none⟩ = some (.int .i64 mq) := by rw [hWB, hbx9]; go_simp
          have hbx : bx < WB.heap.size := by rw [hWB, hbx9]; simp
          have fd := (hxb.cells _ _ hbd1).trans fd
          have hbdB := Nat.lt_of_lt_of_le hbd1 hxb.size
          have HXB := hide (HX1.out.trans hxb)
          have HXLB := hide (HXL.out.trans hxb)
          rw [← hWB, ← hbx9]
          clear hWB hbx9 hxb f0 f1 f2
          by_cases hqi : q = i
          · have hne : ((q : Int) != (i : Int)) = false := by simp [hqi]
            have HN2 := hide (show dem + ttK ts ds i t (q + 1) = s by rw [HNX.out, if_neg (fun h => h.1 hqi), Int.add_zero])
            clear hqi
            refine wp_region_ext (by kernel_rfl) (by kernel_rfl) ?_
            iterate 4 (apply quiet_val; (focus rfl); (focus (intro w' hw'; have hk' := hw'.cells; go_simp; all_goals exact rfl)); simp only [Act.put, List.setIfInBounds_toArray, List.set_cons_succ, List.set_cons_zero])
            iterate 7 go_big_quiet_skip
            iterate 2 (apply quiet_val; (focus rfl); (focus (intro w' hw'; have hk' := hw'.cells; go_simp; all_goals exact rfl)); simp only [Act.put, List.setIfInBounds_toArray, List.set_cons_succ, List.set_cons_zero])
            iterate 10 go_big_quiet_skip
            (apply quiet_val; (focus rfl); (focus (intro w' hw'; have hk' := hw'.cells; go_simp; all_goals exact rfl)); simp only [Act.put, List.setIfInBounds_toArray, List.set_cons_succ, List.set_cons_zero])
            refine wpQuiet_nil ?_
            intro W2 hx2
            have HX9 := hide hx2
            have t2 := (hx2.cells _ _ hbx).trans t2
            clear hx2
            have HX3 := hide (HXLB.out.trans HX9.out)
            go_wp2_with fail
            go_roundw
            case rel => exact ⟨q + 1, by go_num, by omega, by rw [HN2.out], HX3.out⟩
            case measure => simp [intOf]; omega
          · have hne : ((q : Int) != (i : Int)) = true := by simp; omega
            by_cases htop : (topB dk : Int) ≤ (t : Int)
            · have hdt : decide ((topB dk : Int) ≤ (t : Int)) = true := decide_eq_true htop
              by_cases hlow : (t : Int) < (lowB dk : Int) + dq
              · have hdl2 : decide ((t : Int) < (lowB dk : Int) + dq) = true := decide_eq_true hlow
                have HN2 := hide (show dem + ttK ts ds i t (q + 1) = s + mq by rw [HNX.out, if_pos ⟨hqi, htop, hlow⟩])
                clear hqi
                refine wp_region_ext (by kernel_rfl) (by kernel_rfl) ?_
                iterate 4 (apply quiet_val; (focus rfl); (focus (intro w' hw'; have hk' := hw'.cells; go_simp; all_goals exact rfl)); simp only [Act.put, List.setIfInBounds_toArray, List.set_cons_succ, List.set_cons_zero])
                iterate 4 (go_big_quiet_want; apply quietK_val; (focus (intro w' hw'; have hk' := hw'.cells; go_simp; all_goals exact rfl)); simp only [Act.put, List.setIfInBounds_toArray, List.set_cons_succ, List.set_cons_zero]; go_big_quiet_on)
                go_big_quiet_want; apply quietK_call; (focus (intro w' hw'; go_simp; all_goals (first | exact rfl | (apply And.intro <;> exact rfl))))
                · exact fun w' hw' => same_quiet (most_any dk hk1 hk2 w') hw'
                (simp only [Act.put, List.setIfInBounds_toArray, List.set_cons_succ, List.set_cons_zero]; go_big_quiet_on)
                iterate 2 (go_big_quiet_want; apply quietK_val; (focus (intro w' hw'; have hk' := hw'.cells; go_simp; all_goals exact rfl)); simp only [Act.put, List.setIfInBounds_toArray, List.set_cons_succ, List.set_cons_zero]; go_big_quiet_on)
                iterate 2 (apply quiet_val; (focus rfl); (focus (intro w' hw'; have hk' := hw'.cells; go_simp; all_goals exact rfl)); simp only [Act.put, List.setIfInBounds_toArray, List.set_cons_succ, List.set_cons_zero])
                iterate 5 (go_big_quiet_want; apply quietK_val; (focus (intro w' hw'; have hk' := hw'.cells; go_simp; all_goals exact rfl)); simp only [Act.put, List.setIfInBounds_toArray, List.set_cons_succ, List.set_cons_zero]; go_big_quiet_on)
                go_big_quiet_want; apply quietK_call; (focus (intro w' hw'; go_simp; all_goals (first | exact rfl | (apply And.intro <;> exact rfl))))
                · exact fun w' hw' => same_quiet (least_any dk hk1 hk2 w' (TzTab.ext HT.out hb (HXB.out.trans hw'))) hw'
                (simp only [Act.put, List.setIfInBounds_toArray, List.set_cons_succ, List.set_cons_zero]; go_big_quiet_on)
                iterate 4 (go_big_quiet_want; apply quietK_val; (focus (intro w' hw'; have hk' := hw'.cells; go_simp; all_goals exact rfl)); simp only [Act.put, List.setIfInBounds_toArray, List.set_cons_succ, List.set_cons_zero]; go_big_quiet_on)
                (apply quiet_val; (focus rfl); (focus (intro w' hw'; have hk' := hw'.cells; go_simp; all_goals exact rfl)); simp only [Act.put, List.setIfInBounds_toArray, List.set_cons_succ, List.set_cons_zero])
                refine wpQuiet_nil ?_
                intro W2 hx2
                have HX9 := hide hx2
                have t2 := (hx2.cells _ _ hbx).trans t2
                clear hx2
                have HX3 := hide (HXLB.out.trans HX9.out)
                go_wp2_with fail
                go_roundw
                case rel => exact ⟨q + 1, by go_num, by omega, by rw [HN2.out], HX3.out⟩
                case measure => simp [intOf]; omega
              · have hdl2 : decide ((t : Int) < (lowB dk : Int) + dq) = false := decide_eq_false hlow
                have HN2 := hide (show dem + ttK ts ds i t (q + 1) = s by rw [HNX.out, if_neg (fun h => hlow h.2.2), Int.add_zero])
                clear hqi
                refine wp_region_ext (by kernel_rfl) (by kernel_rfl) ?_
                iterate 4 (apply quiet_val; (focus rfl); (focus (intro w' hw'; have hk' := hw'.cells; go_simp; all_goals exact rfl)); simp only [Act.put, List.setIfInBounds_toArray, List.set_cons_succ, List.set_cons_zero])
                iterate 4 (go_big_quiet_want; apply quietK_val; (focus (intro w' hw'; have hk' := hw'.cells; go_simp; all_goals exact rfl)); simp only [Act.put, List.setIfInBounds_toArray, List.set_cons_succ, List.set_cons_zero]; go_big_quiet_on)
                go_big_quiet_want; apply quietK_call; (focus (intro w' hw'; go_simp; all_goals (first | exact rfl | (apply And.intro <;> exact rfl))))
                · exact fun w' hw' => same_quiet (most_any dk hk1 hk2 w') hw'
                (simp only [Act.put, List.setIfInBounds_toArray, List.set_cons_succ, List.set_cons_zero]; go_big_quiet_on)
                iterate 2 (go_big_quiet_want; apply quietK_val; (focus (intro w' hw'; have hk' := hw'.cells; go_simp; all_goals exact rfl)); simp only [Act.put, List.setIfInBounds_toArray, List.set_cons_succ, List.set_cons_zero]; go_big_quiet_on)
                iterate 2 (apply quiet_val; (focus rfl); (focus (intro w' hw'; have hk' := hw'.cells; go_simp; all_goals exact rfl)); simp only [Act.put, List.setIfInBounds_toArray, List.set_cons_succ, List.set_cons_zero])
                iterate 5 (go_big_quiet_want; apply quietK_val; (focus (intro w' hw'; have hk' := hw'.cells; go_simp; all_goals exact rfl)); simp only [Act.put, List.setIfInBounds_toArray, List.set_cons_succ, List.set_cons_zero]; go_big_quiet_on)
                go_big_quiet_want; apply quietK_call; (focus (intro w' hw'; go_simp; all_goals (first | exact rfl | (apply And.intro <;> exact rfl))))
                · exact fun w' hw' => same_quiet (least_any dk hk1 hk2 w' (TzTab.ext HT.out hb (HXB.out.trans hw'))) hw'
                (simp only [Act.put, List.setIfInBounds_toArray, List.set_cons_succ, List.set_cons_zero]; go_big_quiet_on)
                iterate 4 (go_big_quiet_want; apply quietK_val; (focus (intro w' hw'; have hk' := hw'.cells; go_simp; all_goals exact rfl)); simp only [Act.put, List.setIfInBounds_toArray, List.set_cons_succ, List.set_cons_zero]; go_big_quiet_on)
                (apply quiet_val; (focus rfl); (focus (intro w' hw'; have hk' := hw'.cells; go_simp; all_goals exact rfl)); simp only [Act.put, List.setIfInBounds_toArray, List.set_cons_succ, List.set_cons_zero])
                refine wpQuiet_nil ?_
                intro W2 hx2
                have HX9 := hide hx2
                have t2 := (hx2.cells _ _ hbx).trans t2
                clear hx2
                have HX3 := hide (HXLB.out.trans HX9.out)
                go_wp2_with fail
                go_roundw
                case rel => exact ⟨q + 1, by go_num, by omega, by rw [HN2.out], HX3.out⟩
                case measure => simp [intOf]; omega
            · have hdt : decide ((topB dk : Int) ≤ (t : Int)) = false := decide_eq_false htop
              have HN2 := hide (show dem + ttK ts ds i t (q + 1) = s by rw [HNX.out, if_neg (fun h => htop h.2.1), Int.add_zero])
              clear hqi
              refine wp_region_ext (by kernel_rfl) (by kernel_rfl) ?_
              iterate 4 (apply quiet_val; (focus rfl); (focus (intro w' hw'; have hk' := hw'.cells; go_simp; all_goals exact rfl)); simp only [Act.put, List.setIfInBounds_toArray, List.set_cons_succ, List.set_cons_zero])
              iterate 4 (go_big_quiet_want; apply quietK_val; (focus (intro w' hw'; have hk' := hw'.cells; go_simp; all_goals exact rfl)); simp only [Act.put, List.setIfInBounds_toArray, List.set_cons_succ, List.set_cons_zero]; go_big_quiet_on)
              go_big_quiet_want; apply quietK_call; (focus (intro w' hw'; go_simp; all_goals (first | exact rfl | (apply And.intro <;> exact rfl))))
              · exact fun w' hw' => same_quiet (most_any dk hk1 hk2 w') hw'
              (simp only [Act.put, List.setIfInBounds_toArray, List.set_cons_succ, List.set_cons_zero]; go_big_quiet_on)
              iterate 2 (go_big_quiet_want; apply quietK_val; (focus (intro w' hw'; have hk' := hw'.cells; go_simp; all_goals exact rfl)); simp only [Act.put, List.setIfInBounds_toArray, List.set_cons_succ, List.set_cons_zero]; go_big_quiet_on)
              iterate 2 (apply quiet_val; (focus rfl); (focus (intro w' hw'; have hk' := hw'.cells; go_simp; all_goals exact rfl)); simp only [Act.put, List.setIfInBounds_toArray, List.set_cons_succ, List.set_cons_zero])
              iterate 10 go_big_quiet_skip
              (apply quiet_val; (focus rfl); (focus (intro w' hw'; have hk' := hw'.cells; go_simp; all_goals exact rfl)); simp only [Act.put, List.setIfInBounds_toArray, List.set_cons_succ, List.set_cons_zero])
              refine wpQuiet_nil ?_
              intro W2 hx2
              have HX9 := hide hx2
              have t2 := (hx2.cells _ _ hbx).trans t2
              clear hx2
              have HX3 := hide (HXLB.out.trans HX9.out)
              go_wp2_with fail
              go_roundw
              case rel => exact ⟨q + 1, by go_num, by omega, by rw [HN2.out], HX3.out⟩
              case measure => simp [intOf]; omega
        · obtain rfl : q = ts.length := by omega
          have hqI : ¬ ((ts.length : Int) < ts.length) := by omega
          by_cases hgt : c < s
          · have HCR := hide (show crB ts c ds i a = true from anyB_iff.2 ⟨j, by rw [HDU.out, Int.toNat_natCast]; exact hjd, by rw [decide_eq_true_eq, HDE.out, show ((a : Int) + (j : Int)) = (t : Int) by have := HTJ.out; omega, ← HSV.out]; exact hgt⟩)
            go_wp2_with fail
            go_ret
            exact Ret.mk (ret_b HCR.out.symm) HX1.out
          · have HNO2 := hide (show ∀ j', j' < j + 1 → ¬ c < dem + ttK ts ds i ((a + j' : Nat) : Int) ts.length from fun j' hj' => by
              by_cases e : j' = j
              · subst e; rw [← HTJ.out, ← HSV.out]; exact hgt
              · have := HNO.out j' (by omega); omega)
            have hgd : decide (c < s) = false := decide_eq_false hgt
            have HJT := hide (show t + 1 = a + (j + 1) by have := HTJ.out; omega)
            go_wp2_with fail
            go_roundw
            case rel => exact ⟨j + 1, by rw [← HJT.out]; go_num, by omega, HNO2.out, HX1.out⟩
            case measure => simp [intOf]; omega
    · obtain rfl : j = dur := by omega
      have htI : ¬ (t : Int) < (a : Int) + j := by omega
      have HCR := hide (show crB ts c ds i a = false from anyB_false.2 fun j' hj' => by
        rw [HDU.out, Int.toNat_natCast] at hj'
        have := HNO.out j' hj'
        rw [decide_eq_false_iff_not, HDE.out, show ((a : Int) + (j' : Int)) = ((a + j' : Nat) : Int) by omega]
        omega)
      clear ht hx
      go_wp2_with fail
      go_ret
      exact Ret.mk (ret_b HCR.out.symm) HX.out
end Go.Proofs.YtjpdebgejlfeaaaDoor
/- The program's TimetableFilter. -/
namespace Go.Proofs.YtjpdebgejlfeaaaDoor
open Go.RowKit

/-- Block b holds xs at its head. -/
def RowT (W : World) (b m : Nat) (xs : List Int) : Prop := ∃ f, W.rowIs b 3 m f ∧ xs.length ≤ m ∧ ∀ j, j < xs.length → f j = .int .i64 (at0 xs j)
theorem RowT.ext {W W' : World} {b m : Nat} {xs : List Int} (h : RowT W b m xs) (hx : Ext W W') : RowT W' b m xs := by
  obtain ⟨f, h1, h2, h3⟩ := h
  exact ⟨f, hx.row h1, h2, h3⟩
theorem RowT.set {W : World} {b m : Nat} {xs : List Int} (h : RowT W b m xs) (i : Nat) (x : Int) (hi : i < xs.length) : RowT (W.setCell ⟨b, i, none⟩ (.int .i64 x)) b m (xs.set i x) := by
  obtain ⟨f, h1, h2, h3⟩ := h
  refine ⟨_, h1.set i _, by rw [List.length_set]; exact h2, fun j hj => ?_⟩
  rw [List.length_set] at hj
  show (if j = i then _ else f j) = _
  rw [at0_set _ _ _ _ hi]
  by_cases e : j = i
  · subst e; rw [if_pos rfl, if_pos rfl]
  · rw [if_neg e, if_neg (fun h => e h.symm)]; exact h3 j hj
theorem RowT.own {w W : World} {b m c : Nat} {xs : List Int} (h : RowT W b m xs) (hc : xs.length ≤ c) (h8 : xs.length * 8 ≤ 140737488355328) (hb : w.heap.size ≤ b) (hx : Ext w W) : OwnRes xs w (.returned (.slice (some ⟨b, 0, none⟩) xs.length c)) W := by
  obtain ⟨f, h1, h2, h3⟩ := h
  exact ⟨_, c, b, m, f, rfl, hc, h8, hb, fun _ => ⟨rfl, h1, h2, h3⟩, hx⟩
theorem ttI_yes {ts : List Tk} {c : Int} {now : List Int} {k : Nat} {l q : List Int} {t a : Nat} (ha : at0 l t = a) (h : crB ts c now k a = true) : ttI ts c now k l q (t + 1) = (ttI ts c now k l q t).set k (delV (at0 (ttI ts c now k l q t) k) a) := by
  rw [ttI, ha, Int.toNat_natCast, if_pos h]
theorem ttI_no {ts : List Tk} {c : Int} {now : List Int} {k : Nat} {l q : List Int} {t a : Nat} (ha : at0 l t = a) (h : crB ts c now k a = false) : ttI ts c now k l q (t + 1) = ttI ts c now k l q t := by
  rw [ttI, ha, Int.toNat_natCast, h, if_neg (by simp)]
set_option maxRecDepth 100000 in
set_option maxHeartbeats 8000000 in
theorem tt1_any (At : Option Addr) (ct bm bc : Nat) (v' : Value) (ts : List Tk) (now : List Int) (c : Int) (w : World) (hm0 : w.cell? ⟨bm, 0, none⟩ = some (.slice At ts.length ct)) (hm1 : w.cell? ⟨bc, 0, none⟩ = some (.int .i64 c)) (hbm : bm < w.heap.size) (hbc : bc < w.heap.size)
    (hS : STasks w (.slice At ts.length ct) ts) (hN : SInts w v' now) (hv : vTks ts = true) (hl : now.length = ts.length) (hd : ∀ k, k < now.length → 1 ≤ at0 now k ∧ at0 now k ≤ 63) (hT : TzTab w) (hb : 1 < w.heap.size) :
    Calls Tryd.prog 27 #[v', .pointer (some ⟨bm, 0, none⟩), .pointer (some ⟨bc, 0, none⟩)] w (OwnRes (ttS ts c now) w) := by
  have HS := hide hS
  have HNO := hide hN
  have HT := hide hT
  have HV := hide hv
  have HD := hide hd
  have HL := hide hl
  have M0 := hide hm0
  have M1 := hide hm1
  obtain ⟨hn1, hn4, -⟩ := vTks_bits hv
  obtain ⟨n, hn⟩ : ∃ n, n = now.length := ⟨_, rfl⟩
  have HN := hide hn
  have hn0 : 1 ≤ n := by omega
  have hnle : n ≤ 4 := by omega
  have HDN := hide (show DomL now from fun i hi => by have := hd i hi; omega)
  obtain ⟨An, cn, rfl, -, -⟩ := hN.form
  rw [← hn]
  clear hS hN hT hv hd hl hn hm0 hm1
  go_enter Tryd.func27, Tryd.ntmps27
  go_wp2_with fail
  refine (copied_any _ now _ (by have h := HNO.out; rw [← HN.out] at h; exact h)).mono ?_
  rintro e w1 ⟨A1, c1, b1, m1, f1, rfl, hc1, hd1, hb1, ho1, hx1⟩
  obtain ⟨rfl, hr1, hm1', hf1⟩ := ho1 (by rw [← HN.out]; omega)
  rw [← HN.out] at hc1 hd1
  have HRS := hide (show RowT w1 b1 m1 now from ⟨f1, hr1, hm1', hf1⟩)
  have HX1 := hide hx1
  have hb1l := hr1.lt
  rw [← HN.out]
  clear ho1 hr1 hf1 hx1 hm1'
  go_wp2_with fail
  go_loopw [14] (fun i wr => ∃ k : Nat, i = .int .i64 k ∧ k ≤ n ∧ Ext w wr ∧ b1 < wr.heap.size ∧ RowT wr b1 m1 (ttQ ts c now k)) (fun i _ => n - (intOf i).toNat)
  case atStart => exact ⟨0, rfl, Nat.zero_le _, HX1.out, hb1l, HRS.out⟩
  case round =>
    obtain ⟨k, rfl, hk, hx, hbw, hrow⟩ := hrel
    have HX := hide hx
    have HROW := hide hrow
    obtain ⟨q, hq⟩ : ∃ q, q = ttQ ts c now k := ⟨_, rfl⟩
    have HQ := hide hq
    obtain ⟨q1, q2, q3⟩ := ttQ_ok (ts := ts) (c := c) HDN.out k (by rw [← HN.out]; exact hk)
    rw [← hq] at HROW q1 q2 q3
    rw [← HN.out] at q1
    have HQD := hide q2
    have HQL := hide q1
    clear hx hrow hq q3 q2 q1
    by_cases hlt : k < n
    · have hkI : (k : Int) < n := by omega
      have hkn : k < now.length := by rw [← HN.out]; exact hlt
      obtain ⟨bn, on, hAn, hbn, fk⟩ := HNO.out.at_ hkn
      subst hAn
      have fk := (HX.out.cells _ _ hbn).trans fk
      have hdb := HD.out k hkn
      obtain ⟨d, hd⟩ : ∃ d, d = at0 now k := ⟨_, rfl⟩
      rw [← hd] at fk hdb
      have HDD := hide hd
      have hdl := domL_len d
      clear hd
      go_wp2_with fail
      refine (valuesOf_any d _ (by omega) (by omega)).mono ?_
      rintro e w2 ⟨A2, c2, b2, m2, f2, rfl, hc2, hd2, hb2, ho2, hx2⟩
      have HO2 := hide ho2
      have HX2 := hide (HX.out.trans hx2)
      have HROW2 := hide (HROW.out.ext hx2)
      have hb2w : b1 < w2.heap.size := Nat.lt_of_lt_of_le hbw hx2.size
      have hb12 : b2 ≠ b1 := by omega
      clear ho2 hx2 fk
      go_wp2_with fail
      go_loopw [22] (fun i wr2 => ∃ t : Nat, i = .int .i64 t ∧ t ≤ (domL d).length ∧ Ext w wr2 ∧ RowT wr2 b1 m1 (ttI ts c now k (domL d) q t) ∧ Keep (fun j => j ≠ b1) w2 wr2) (fun i _ => (domL d).length - (intOf i).toNat)
      case atStart => exact ⟨0, rfl, Nat.zero_le _, HX2.out, HROW2.out, Keep.refl _ _⟩
      case round =>
        obtain ⟨t, rfl, ht, hxt, hrt, hkt⟩ := hrel
        have HXT := hide hxt
        have HKT := hide hkt
        obtain ⟨r, hr⟩ : ∃ r, r = ttI ts c now k (domL d) q t := ⟨_, rfl⟩
        have HRR := hide hr
        obtain ⟨g1, g2, -, -⟩ := ttI_ok (ts := ts) (c := c) (now := now) (k := k) (l := domL d) HQD.out (by rw [HQL.out]; exact hlt) (fun s hs => domL_val _ hs) t ht
        rw [← hr] at hrt g1 g2
        have HRT := hide hrt
        have hrl : r.length = n := by rw [g1, HQL.out]
        have HRL := hide hrl
        have HRD := hide g2
        clear hr hrt g1 g2 hrl
        by_cases htl : t < (domL d).length
        · have htI : (t : Int) < (domL d).length := by omega
          obtain ⟨rfl, hr2, hm2', hf2⟩ := HO2.out (by omega)
          obtain ⟨a, ha, ha6⟩ := domL_val d htl
          have fa := (hkt.row hb12 hr2).cell (i := t) (by omega)
          rw [hf2 t htl, ha] at fa
          have hb2t := (hkt.row hb12 hr2).lt
          have HA := hide ha
          have g0 := (hxt.cells _ _ hbm).trans M0.out
          have g1 := (hxt.cells _ _ hbc).trans M1.out
          clear hxt hkt hr2 hf2 ha
          go_wp2_with fail
          refine (crowded_any _ _ ts now c k a _ (HS.out.ext HXT.out) (by have h := HNO.out.ext HXT.out; rw [← HN.out] at h; exact h) HV.out HL.out HD.out (by rw [← HL.out]; exact hkn) ha6 (TzTab.ext HT.out hb HXT.out) (Nat.lt_of_lt_of_le hb HXT.out.size)).mono ?_
          rintro e w3 ⟨rfl, hx3⟩
          have HX3 := hide (HXT.out.trans hx3)
          have HRT3 := hide (HRT.out.ext hx3)
          have HKT3 := hide (HKT.out.ext hx3)
          have fa := (hx3.cells _ _ hb2t).trans fa
          clear hx3 g0 g1
          cases hzz : crB ts c now k a with
          | false =>
            have HNX := hide (ttI_no (ts := ts) (c := c) (now := now) (k := k) (l := domL d) (q := q) (t := t) HA.out hzz)
            clear hzz
            go_wp2_with fail
            go_roundw
            case rel => exact ⟨t + 1, by go_num, by omega, HX3.out, by rw [HNX.out, ← HRR.out]; exact HRT3.out, HKT3.out⟩
            case measure => simp [intOf]; omega
          | true =>
            have HNX := hide (ttI_yes (ts := ts) (c := c) (now := now) (k := k) (l := domL d) (q := q) (t := t) HA.out hzz)
            obtain ⟨f5, hr5, hm5, hf5⟩ := HRT3.out
            have hrl := HRL.out
            have fk := hr5.cell (i := k) (by omega)
            rw [hf5 k (by omega)] at fk
            have fz := hr5.frozen k
            have hbl := hr5.lt
            have hyb := HRD.out k (by omega)
            obtain ⟨y, hy⟩ : ∃ y, y = at0 r k := ⟨_, rfl⟩
            rw [← hy] at fk hyb
            have HY := hide hy
            have hpw := pow_bd ha6
            have kp : IntKind.i64.wrap (2 ^ a) = 2 ^ a := IntWalk.i64_in _ (by omega)
            have kb := bits_andNot hyb.1 hyb.2 ha6
            have hkr : k < r.length := by omega
            clear hr5 hf5 hy hzz hrl
            go_wp2_with fail
            refine wp_region_ext_tail 8 (by kernel_rfl) (by kernel_rfl) ?_
            simp only [List.take_succ_cons, List.take_zero, List.drop_succ_cons, List.drop_zero]
            iterate 8 (apply quiet_val; (focus rfl); (focus (intro w' hw'; have hk' := hw'.cells; go_simp; all_goals exact rfl)); simp only [Act.put, List.setIfInBounds_toArray, List.set_cons_succ, List.set_cons_zero])
            refine wpQuiet_nil ?_
            intro w5 hx5
            have HX5 := hide (HX3.out.trans hx5)
            have HRT5 := hide (HRT3.out.ext hx5)
            have HKT5 := hide (HKT3.out.ext hx5)
            have fz := (hx5.frz _ _ hbl).trans fz
            have fk := (hx5.cells _ _ hbl).trans fk
            clear hx5 fa
            try simp only [kp, kb]
            go_wp2_with fail
            go_roundw
            case rel => exact ⟨t + 1, by go_num, by omega, HX5.out.set (p := ⟨b1, k, none⟩) hb1 _, by rw [HNX.out, ← HRR.out, ← HY.out]; exact HRT5.out.set k _ hkr, HKT5.out.set (fun _ hh => hh rfl) _⟩
            case measure => simp [intOf]; omega
        · obtain rfl : t = (domL d).length := by omega
          have htI : ¬ (((domL d).length : Int) < (domL d).length) := by omega
          have HNX := hide (show ttQ ts c now (k + 1) = r by rw [ttQ, ← HQ.out, ← HDD.out, HRR.out])
          have hbt := Nat.lt_of_lt_of_le hb2w HKT.out.size
          go_wp2_with fail
          go_roundw
          case rel => exact ⟨k + 1, by go_num, by omega, HXT.out, hbt, by rw [HNX.out]; exact HRT.out⟩
          case measure => simp [intOf]; omega
    · obtain rfl : k = n := by omega
      have hkI : ¬ ((k : Int) < k) := by omega
      have HE := hide (show OwnRes (ttS ts c now) w (.returned (.slice (some ⟨b1, 0, none⟩) k c1)) wr by
        have e : ttS ts c now = q := by rw [HQ.out, ttS, ← HN.out]
        have hql := HQL.out
        rw [e]
        have := HROW.out.own (w := w) (c := c1) (by omega) (by omega) hb1 HX.out
        rwa [hql] at this)
      go_wp2_with fail
      go_ret
      exact HE.out
set_option maxRecDepth 100000 in
set_option maxHeartbeats 8000000 in
theorem TimetableI_any (v : Value) (ts : List Tk) (c : Int) (w : World) (hS : STasks w v ts) (hT : TzTab w) (hb : 1 < w.heap.size) :
    Calls Tryd.prog 8 #[v, .int .i64 c] w (OwnRes (ttV ts c) w) := by
  have HS := hide hS
  have HT := hide hT
  obtain ⟨At, ct, rfl, -, -⟩ := hS.form
  obtain ⟨w0, hw0⟩ : ∃ w0, w0 = (w.alloc (.cells #[.slice At ts.length ct] 26)).alloc (.cells #[.int .i64 c] 3) := ⟨_, rfl⟩
  have HX0 := hide (show Ext w w0 by rw [hw0]; exact ((Ext.refl w).alloc _).alloc _)
  have k0 : w0.cell? ⟨w.heap.size, 0, none⟩ = some (.slice At ts.length ct) := by rw [hw0]; go_simp
  have k1 : w0.cell? ⟨w.heap.size + 1, 0, none⟩ = some (.int .i64 c) := by rw [hw0]; go_simp
  have ks : w.heap.size + 1 < w0.heap.size := by rw [hw0]; simp
  have ks0 : w.heap.size < w0.heap.size := by omega
  clear hS hT
  go_enter Tryd.func8, Tryd.ntmps8
  go_wp2_with fail
  rw [← hw0]
  clear hw0
  refine (ValidTasksI_any _ ts c _ (HS.out.ext HX0.out)).mono ?_
  rintro e w1 ⟨rfl, hx1⟩
  have k0 := (hx1.cells _ _ ks0).trans k0
  have k1 := (hx1.cells _ _ ks).trans k1
  have ks0 := Nat.lt_of_lt_of_le ks0 hx1.size
  have ks := Nat.lt_of_lt_of_le ks hx1.size
  have HX1 := hide (HX0.out.trans hx1)
  clear hx1
  cases hv : vTks ts && inR c 0 9 with
  | false =>
    have HVV := hide (show ttV ts c = [] by rw [ttV, hv]; rfl)
    clear hv k0 k1
    go_wp2_with fail
    go_ret
    rw [HVV.out]
    exact OwnRes.nil_ rfl HX1.out
  | true =>
    have HVV := hide (show ttV ts c = fixL (ttS ts c) 300 (startsL ts) by rw [ttV, hv]; rfl)
    have hv2 := hv
    rw [Bool.and_eq_true] at hv2
    have HV := hide hv2.1
    obtain ⟨hn1, hn4, -⟩ := vTks_bits hv2.1
    have HST := hide (starts_tt hv2.1).1
    have K0 := hide k0
    have K1 := hide k1
    clear hv hv2
    go_wp2_with fail
    refine (startsOf_any _ ts _ (HS.out.ext HX1.out) (by omega)).mono ?_
    rintro e w2 ⟨A2, c2, b2, m2, f2, rfl, hc2, hd2, hb2, ho2, hx2⟩
    have hsl : (startsL ts).length = ts.length := HST.out.1
    have HIN := hide (SInts.own hc2 hd2 ho2 (fun i hi => by have := HST.out.2 i hi; unfold I64; omega))
    have HX2 := hide (HX1.out.trans hx2)
    have HX12 := hide hx2
    have HSL := hide hsl
    rw [hsl]
    rw [hsl] at HIN
    clear ho2 hc2 hd2 hb2 hx2 k0 k1 hsl
    go_wp2_with fail
    refine (fixpointZ_any _ (startsL ts) 27 #[.pointer (some ⟨w.heap.size, 0, none⟩), .pointer (some ⟨w.heap.size + 1, 0, none⟩)] (ttS ts c) (TtG ts.length) _ HIN.out HST.out (by rw [HSL.out]; exact ttS_ok ts c ts.length) (by rw [HSL.out]; exact hn4) (by rw [HSL.out]; omega) (fun args W => callFunc_body Tryd.func27 (by kernel_rfl) (by kernel_rfl) args W)
      (hide fun now v' W hW hSn hg hz => (tt1_any At ct w.heap.size (w.heap.size + 1) v' ts now c W ((hW.cells _ _ (Nat.lt_of_lt_of_le ks0 HX12.out.size)).trans ((HX12.out.cells _ _ ks0).trans K0.out)) ((hW.cells _ _ (Nat.lt_of_lt_of_le ks HX12.out.size)).trans ((HX12.out.cells _ _ ks).trans K1.out)) (Nat.lt_of_lt_of_le (Nat.lt_of_lt_of_le ks0 HX12.out.size) hW.size) (Nat.lt_of_lt_of_le (Nat.lt_of_lt_of_le ks HX12.out.size) hW.size)
        (HS.out.ext (HX2.out.trans hW)) hSn HV.out hg.1 (fun k hk => by
          have h1 := hg.2 k hk
          have h2 : at0 now k ≠ 0 := fun e => by rw [hasI_iff.2 ⟨k, hk, e⟩] at hz; cases hz
          omega) (TzTab.ext HT.out hb (HX2.out.trans hW)) (Nat.lt_of_lt_of_le hb (HX2.out.trans hW).size)).mono fun _ _ h => .inl h)).mono ?_
    rw [← HVV.out]
    rintro e w3 ⟨A3, c3, b3, m3, f3, rfl, hc3, hd3, hb3, ho3, hx3⟩
    have HR := hide (show OwnRes (ttV ts c) w (.returned (.slice A3 (ttV ts c).length c3)) w3 from ⟨A3, c3, b3, m3, f3, rfl, hc3, hd3, Nat.le_trans HX2.out.size hb3, ho3, HX2.out.trans hx3⟩)
    generalize hU : (ttV ts c) = U at *
    clear hc3 hd3 hb3 ho3 hx3
    go_wp2_with fail
    go_ret
    exact HR.out
end Go.Proofs.YtjpdebgejlfeaaaDoor
