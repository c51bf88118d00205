/- The reference's profile and what fits above it. -/
import Derived.Test.YtjpdebgejlfeaaaDoorQ33
import Derived.Test.YtjpdebgejlfeaaaDoorCompS
import Derived.Test.YtjpdebgejlfeaaaDoorTail
import Derived.Deep.CutBlock
import Derived.Deep.DeepCutAuto
import Derived.Test.YtjpdebgejlfeaaaDoorQ12
namespace Go.Proofs.YtjpdebgejlfeaaaDoor
open Go.RowKit

/-- What the first k tasks but one need at time t, and task k from lo up to u. -/
def tcE (ts : List Tk) (ds : List Int) (but k lo u t : Nat) : Int := ttK ts ds but t k + (if k ≠ but ∧ lo ≤ t ∧ t < u then tkM ts k else 0)
theorem ttK_succ (ts : List Tk) (ds : List Int) (i : Nat) (t : Int) (k : Nat) : ttK ts ds i t (k + 1) = ttK ts ds i t k + (if k ≠ i ∧ (topB (at0 ds k).toNat : Int) ≤ t ∧ t < (lowB (at0 ds k).toNat : Int) + tkD ts k then tkM ts k else 0) := rfl
def tcV (f : Nat → Int) (t : Nat) : Value := .int .i64 (f t)
def ProGot (ts : List Tk) (ds : List Int) (but : Nat) (w : World) (e : Ending) (w' : World) : Prop :=
  ∃ b, w.heap.size ≤ b ∧ e = .returned (.slice (some ⟨b, 0, none⟩) 11 11) ∧ w'.rowIs b 3 11 (tcV (fun t => ttK ts ds but t ts.length)) ∧ Ext w w'
set_option maxRecDepth 100000 in
set_option maxHeartbeats 8000000 in
theorem profileOf_any (v vd : Value) (ts : List Tk) (ds : List Int) (but : Nat) (w : World) (hS : STasks w v ts) (hD : SInts w vd ds) (hv : vTks ts = true) (hl : ds.length = ts.length) (hd : ∀ k, k < ds.length → 1 ≤ at0 ds k ∧ at0 ds k ≤ 63) :
    Calls Tryd.prog 38 #[v, vd, .int .i64 but] w (ProGot ts ds but w) := by
  have HS := hide hS
  have HD := hide hD
  obtain ⟨At, ct, rfl, -, -⟩ := hS.form
  obtain ⟨Ad, cd, rfl, -, -⟩ := hD.form
  obtain ⟨hn1, hn4, hbits⟩ := vTks_bits hv
  have HBT := hide hbits
  have HDB := hide hd
  have HL := hide hl
  clear hS hD hv hl hd hbits
  go_enter Tryd.func38, Tryd.ntmps38
  go_wp2_with (at_make; go_must (refine wpList_make_gen _ rfl _ _ 24 rfl 3 (.int .i64 0) 1 8 Tryd.underlying24 Tryd.infoI .i64 .i64 11 rfl rfl (by omega) (by omega) (fun _ => .int .i64 0) (fun i _ => by simp [Value.cells, Nat.mod_one]) ?_); intro w1 hrow hsz hx)
  have hrow0 : w1.rowIs w.heap.size 3 11 (tcV (fun t => ttK ts ds but t 0)) := hrow.congr fun i _ => by simp [tcV, ttK]
  have Hrow := hide hrow0
  clear hrow0 hrow
  go_loopw [8] (fun i wr => ∃ k : Nat, k ≤ ts.length ∧ i = .int .i64 k ∧ Ext w wr ∧ wr.rowIs w.heap.size 3 11 (tcV (fun t => ttK ts ds but t k))) (fun i _ => ts.length - (intOf i).toNat)
  case atStart => exact ⟨0, Nat.zero_le _, rfl, hx, Hrow.out⟩
  case round =>
    obtain ⟨k, hk, rfl, hxr, hr⟩ := hrel
    obtain ⟨W0, hW0⟩ : ∃ W0, W0 = wr := ⟨wr, rfl⟩
    subst hW0
    have HXR := hide hxr
    have HROW := hide hr
    have hB := hr.lt
    clear hxr hr
    by_cases hlt : k < ts.length
    · have hkI : (k : Int) < ts.length := by omega
      have hkd : k < ds.length := by rw [HL.out]; exact hlt
      have hkdI : (k : Int) < ds.length := by omega
      obtain ⟨bt, ot, rfl, hbt, f0, f1, f2⟩ := HS.out.at_ hlt
      have f1 := (HXR.out.cells _ _ hbt).trans f1
      have hbtW := Nat.lt_of_lt_of_le hbt HXR.out.size
      have hbb := HBT.out k hlt
      obtain ⟨dq, hdq⟩ : ∃ x, x = tkD ts k := ⟨_, rfl⟩
      obtain ⟨mq, hmq⟩ : ∃ x, x = tkM ts k := ⟨_, rfl⟩
      rw [← hdq] at f1 hbb
      rw [← hmq] at f2 hbb
      have HDQ := hide hdq
      have HMQ := hide hmq
      have HF2 := hide f2
      obtain ⟨bd, od, rfl, hbd, fd⟩ := HD.out.at_ hkd
      have hdk := HDB.out k hkd
      obtain ⟨dk, hdkv⟩ : ∃ dk : Nat, at0 ds k = dk := ⟨(at0 ds k).toNat, by omega⟩
      rw [hdkv] at fd hdk
      have hk1 : 1 ≤ dk := by omega
      have hk2 : dk ≤ 63 := by omega
      have HDK := hide hdkv
      have fd := (HXR.out.cells _ _ hbd).trans fd
      have hbdW := Nat.lt_of_lt_of_le hbd HXR.out.size
      have hlw := (domL_endsT hk1 hk2).2.2.2
      obtain ⟨lo, hi, hlh, hlh2⟩ : ∃ lo hi : Nat, compP dk dq = ((lo : Int), (hi : Int)) ∧ (lo ≤ hi ∧ hi ≤ 11 ∧ ∀ t : Nat, (lo ≤ t ∧ t < hi) ↔ ((topB dk : Int) ≤ (t : Int) ∧ (t : Int) < (lowB dk : Int) + dq)) := by
        by_cases h : (topB dk : Int) < lowB dk + dq
        · exact ⟨topB dk, ((lowB dk : Int) + dq).toNat, by rw [compP, if_pos h]; congr 1; omega, by omega, by omega, fun t => by omega⟩
        · exact ⟨0, 0, by rw [compP, if_neg h]; rfl, by omega, by omega, fun t => by omega⟩
      have hlo := hlh2.1
      have hhi := hlh2.2.1
      have HLH := hide hlh
      have HLT := hide hlh2.2.2
      have hd1 : 1 ≤ dq := by omega
      have hd6 : dq ≤ 6 := by omega
      have HR2 := hide (show W0.rowIs w.heap.size 3 11 (tcV (tcE ts ds but k lo lo)) from HROW.out.congr fun t _ => by
        unfold tcV tcE
        rw [if_neg (fun h => by omega), Int.add_zero])
      clear hdq hmq hdkv hdk f0 f2 hlh hlh2
      go_wp2_with fail
      refine wp_region_ext (by kernel_rfl) (by kernel_rfl) ?_
      iterate 9 (apply quiet_val; (focus rfl); (focus (intro w' hw'; have hk' := hw'.cells; go_simp; all_goals exact rfl)); simp only [Act.put, List.setIfInBounds_toArray, List.set_cons_succ, List.set_cons_zero])
      apply quiet_call; (focus rfl); (focus (intro w' hw'; go_simp; all_goals (first | exact rfl | (apply And.intro <;> exact rfl))))
      · exact fun w' hw' => Ret.quiet ((show Calls Tryd.prog 59 _ w' (Ret (.tuple #[.int .i64 (lo : Int), .int .i64 (hi : Int)]) w') by
          have h := compulsory_any dk dq w' hk1 hk2 hd1 hd6
          rw [HLH.out] at h
          exact h)) hw'
      (simp only [Act.put, List.setIfInBounds_toArray, List.set_cons_succ, List.set_cons_zero])
      iterate 5 (apply quiet_val; (focus rfl); (focus (intro w' hw'; have hk' := hw'.cells; go_simp; all_goals exact rfl)); simp only [Act.put, List.setIfInBounds_toArray, List.set_cons_succ, List.set_cons_zero])
      refine wpQuiet_nil ?_
      intro W1 hx1
      have HX1 := hide (HXR.out.trans hx1)
      have HR1 := hide (hx1.row HR2.out)
      have hB1 := Nat.lt_of_lt_of_le hB hx1.size
      clear hx1 fd f1
      go_wp2_with fail
      go_loopw [11] (fun tv wr => ∃ u : Nat, tv = .int .i64 u ∧ lo ≤ u ∧ u ≤ hi ∧ Ext w wr ∧ wr.rowIs w.heap.size 3 11 (tcV (tcE ts ds but k lo u))) (fun tv _ => hi - (intOf tv).toNat)
      case atStart => exact ⟨lo, rfl, Nat.le_refl _, hlo, HX1.out, HR1.out⟩
      case round =>
        obtain ⟨u, rfl, hu1, hu2, hx2, hr2⟩ := hrel
        obtain ⟨W2, hW2⟩ : ∃ W2, W2 = wr := ⟨wr, rfl⟩
        subst hW2
        have HX2 := hide hx2
        have HRW := hide hr2
        have hB2 := hr2.lt
        by_cases huh : u < hi
        · have huI : (u : Int) < hi := by omega
          by_cases hkb : k = but
          · have hne : ((k : Int) != (but : Int)) = false := by simp [hkb]
            have HEND := hide (show W2.rowIs w.heap.size 3 11 (tcV (fun t => ttK ts ds but t (k + 1))) from hr2.congr fun t _ => by
              unfold tcV tcE
              show _ = Value.int .i64 (ttK ts ds but (t : Int) (k + 1))
              rw [ttK_succ, if_neg (fun h => h.1 hkb), if_neg (fun h => h.1 hkb)])
            clear hr2 hx2 hkb
            go_wp2_with fail
            go_roundw
            case rel => exact ⟨k + 1, by omega, by go_num, HX2.out, HEND.out⟩
            case measure => simp [intOf]; omega
          · have hne : ((k : Int) != (but : Int)) = true := by simp; omega
            have u0 := hr2.cell (i := u) (by omega)
            have z0 := hr2.frozen u
            rw [tcV] at u0
            have hkb9 := ttK_bd (fun k hk => ⟨(HBT.out k hk).2.2.2.2.1, (HBT.out k hk).2.2.2.2.2⟩) ds but (u : Int) k hk
            have e0 : tcE ts ds but k lo u u = ttK ts ds but u k := by unfold tcE; rw [if_neg (fun h => by omega), Int.add_zero]
            rw [e0] at u0
            obtain ⟨pv, hpv⟩ : ∃ x, x = ttK ts ds but u k := ⟨_, rfl⟩
            rw [← hpv] at u0 hkb9
            have HPV := hide hpv
            have f2 := (HX2.out.cells _ _ hbt).trans HF2.out
            have hwr := IntWalk.i64_in (pv + mq) (by omega)
            have hu11 : (u : Int) < 11 := by omega
            have HNX := hide (show ∀ t, t < 11 → (if t = u then Value.int .i64 (pv + mq) else tcV (tcE ts ds but k lo u) t) = tcV (tcE ts ds but k lo (u + 1)) t from fun t _ => by
              by_cases e : t = u
              · subst e
                rw [if_pos rfl]
                unfold tcV tcE
                rw [if_pos ⟨hkb, by omega, by omega⟩, ← HPV.out, ← HMQ.out]
              · rw [if_neg e]
                unfold tcV tcE
                have : (k ≠ but ∧ lo ≤ t ∧ t < u) ↔ (k ≠ but ∧ lo ≤ t ∧ t < u + 1) := by omega
                simp only [this])
            have hbtW2 := Nat.lt_of_lt_of_le hbt HX2.out.size
            clear hr2 hx2 hpv e0 hkb
            go_wp2_with fail
            refine wp_region_ext_tail 13 (by kernel_rfl) (by kernel_rfl) ?_
            simp only [List.take_succ_cons, List.take_zero, List.drop_succ_cons, List.drop_zero]
            iterate 13 (apply quiet_val; (focus rfl); (focus (intro w' hw'; have hk' := hw'.cells; go_simp; all_goals exact rfl)); simp only [Act.put, List.setIfInBounds_toArray, List.set_cons_succ, List.set_cons_zero])
            refine wpQuiet_nil ?_
            intro W3 hx3
            have r3 := hx3.row HRW.out
            have u4 := r3.cell (i := u) (by omega)
            have z4 := r3.frozen u
            have HR3 := hide r3
            have HX3 := hide (HX2.out.trans hx3)
            clear hx3 r3 u0 z0 f2
            try simp only [hwr]
            go_wp2_with fail
            go_roundw
            case rel => exact ⟨u + 1, by go_num, by omega, by omega, HX3.out.set (Nat.le_refl _) _, (HR3.out.set u _).congr HNX.out⟩
            case measure => simp [intOf]; omega
        · obtain rfl : u = hi := by omega
          have huI : ¬ (u : Int) < u := by omega
          have HEND := hide (show W2.rowIs w.heap.size 3 11 (tcV (fun t => ttK ts ds but t (k + 1))) from hr2.congr fun t _ => by
            unfold tcV tcE
            show _ = Value.int .i64 (ttK ts ds but (t : Int) (k + 1))
            rw [ttK_succ]
            have := HLT.out t
            have h2 : (k ≠ but ∧ lo ≤ t ∧ t < u) ↔ (k ≠ but ∧ (topB (at0 ds k).toNat : Int) ≤ (t : Int) ∧ (t : Int) < (lowB (at0 ds k).toNat : Int) + tkD ts k) := by
              rw [HDK.out, Int.toNat_natCast, ← HDQ.out]
              exact and_congr_right fun _ => this
            simp only [h2])
          clear hr2 hx2
          go_wp2_with fail
          go_roundw
          case rel => exact ⟨k + 1, by omega, by go_num, HX2.out, HEND.out⟩
          case measure => simp [intOf]; omega
    · obtain rfl : k = ts.length := by omega
      have hkI : ¬ (ts.length : Int) < ts.length := by omega
      go_wp2_with fail
      go_ret
      exact ⟨_, Nat.le_refl _, rfl, HROW.out, HXR.out⟩
set_option maxRecDepth 100000 in
set_option maxHeartbeats 4000000 in
theorem fitsProfile_any (b : Nat) (ts : List Tk) (ds : List Int) (c : Int) (i a : Nat) (w : World) (hr : w.rowIs b 3 11 (tcV (fun t => ttK ts ds i t ts.length))) (hv : vTks ts = true) (hi : i < ts.length) (ha : a < 6) :
    Calls Tryd.prog 40 #[.slice (some ⟨b, 0, none⟩) 11 11, .agg #[.int .i64 (tkS ts i), .int .i64 (tkD ts i), .int .i64 (tkM ts i)], .int .i64 a, .int .i64 c] w (Ret (.bool (!crB ts c ds i a)) w) := by
  obtain ⟨hn1, hn4, hbits⟩ := vTks_bits hv
  have hbi := hbits i hi
  have HBT := hide hbits
  have HR := hide hr
  have hbl := hr.lt
  obtain ⟨dur, hdur⟩ : ∃ dur : Nat, tkD ts i = dur := ⟨(tkD ts i).toNat, by omega⟩
  obtain ⟨dem, hdem⟩ : ∃ dem : Int, tkM ts i = dem := ⟨_, rfl⟩
  obtain ⟨st, hst⟩ : ∃ st : Int, tkS ts i = st := ⟨_, rfl⟩
  have HDU := hide hdur
  have HDE := hide hdem
  have hdl : 1 ≤ dur ∧ dur ≤ 6 := by omega
  have hml : 0 ≤ dem ∧ dem ≤ 9 := by omega
  rw [hdur, hdem, hst]
  obtain ⟨w0, hw0⟩ : ∃ w0, w0 = w.alloc (.cells #[.int .i64 st, .int .i64 dur, .int .i64 dem] 42) := ⟨_, rfl⟩
  have HX0 := hide (show Ext w w0 by rw [hw0]; exact (Ext.refl w).alloc _)
  have k1 : w0.cell? ⟨w.heap.size, 1, none⟩ = some (.int .i64 dur) := by rw [hw0]; go_simp
  have k2 : w0.cell? ⟨w.heap.size, 2, none⟩ = some (.int .i64 dem) := by rw [hw0]; go_simp
  have ks : w.heap.size < w0.heap.size := by rw [hw0]; simp
  have K1 := hide k1
  have K2 := hide k2
  clear hr hv hbits hbi hdur hdem hst k1 k2
  go_enter Tryd.func40, Tryd.ntmps40
  go_wp2_with fail
  rw [← hw0]
  clear hw0
  go_loopw [9] (fun tv wr => ∃ j : Nat, tv = .int .i64 ((a + j : Nat) : Int) ∧ j ≤ dur ∧ (∀ j', j' < j → ¬ c < dem + ttK ts ds i ((a + j' : Nat) : Int) ts.length) ∧ Ext w0 wr) (fun tv _ => a + dur - (intOf tv).toNat)
  case atStart => exact ⟨0, rfl, Nat.zero_le _, fun j' h => absurd h (by omega), Ext.refl _⟩
  case round =>
    obtain ⟨j, hjv, hj, hno, hx⟩ := hrel
    obtain ⟨t, ht⟩ : ∃ t : Nat, t = a + j := ⟨_, rfl⟩
    rw [← ht] at hjv
    subst hjv
    obtain ⟨W0, hW0⟩ : ∃ W0, W0 = wr := ⟨wr, rfl⟩
    subst hW0
    have HX := hide (HX0.out.trans hx)
    have HXL := hide hx
    have HNO := hide hno
    have HTJ := hide ht
    have htb : t < 11 ∨ ¬ j < dur := by omega
    have c1 := (hx.cells _ _ ks).trans K1.out
    have c2 := (hx.cells _ _ ks).trans K2.out
    have ksW := Nat.lt_of_lt_of_le ks hx.size
    clear hno
    by_cases hjd : j < dur
    · have ht11 : t < 11 := by omega
      have htI : (t : Int) < (a : Int) + dur := by omega
      have ht11I : (t : Int) < 11 := by omega
      have u0 := (HX.out.row HR.out).cell (i := t) ht11
      rw [tcV] at u0
      have hkb9 := ttK_bd (fun k hk => ⟨(HBT.out k hk).2.2.2.2.1, (HBT.out k hk).2.2.2.2.2⟩) ds i (t : Int) ts.length (Nat.le_refl _)
      obtain ⟨pv, hpv⟩ : ∃ x, x = ttK ts ds i t ts.length := ⟨_, rfl⟩
      rw [← hpv] at u0 hkb9
      have HPV := hide hpv
      have hwr := IntWalk.i64_in (pv + dem) (by omega)
      have hblW := Nat.lt_of_lt_of_le hbl HX.out.size
      clear ht hx hpv htb
      by_cases hgt : c < pv + dem
      · have HCR := hide (show (!crB ts c ds i a) = false by
          rw [show crB ts c ds i a = true from anyB_iff.2 ⟨j, by rw [HDU.out, Int.toNat_natCast]; exact hjd, by rw [decide_eq_true_eq, HDE.out, show ((a : Int) + (j : Int)) = (t : Int) by have := HTJ.out; omega, ← HPV.out]; omega⟩]; rfl)
        have hgd : decide (c < pv + dem) = true := decide_eq_true hgt
        go_wp2_with fail
        refine wp_region_ext (by kernel_rfl) (by kernel_rfl) ?_
        iterate 9 (apply quiet_val; (focus rfl); (focus (intro w' hw'; have hk' := hw'.cells; go_simp; all_goals exact rfl)); simp only [Act.put, List.setIfInBounds_toArray, List.set_cons_succ, List.set_cons_zero])
        refine wpQuiet_nil ?_
        intro W2 hx2
        have HX2 := hide (HX.out.trans hx2)
        clear hx2
        go_wp2_with fail
        go_ret
        exact Ret.mk (ret_b HCR.out.symm) HX2.out
      · have HNO2 := hide (show ∀ j', j' < j + 1 → ¬ c < dem + ttK ts ds i ((a + j' : Nat) : Int) ts.length from fun j' hj' => by
          by_cases e : j' = j
          · subst e; rw [← HTJ.out, ← HPV.out]; omega
          · have := HNO.out j' (by omega); omega)
        have hgd : decide (c < pv + dem) = false := decide_eq_false hgt
        have HJT := hide (show t + 1 = a + (j + 1) by have := HTJ.out; omega)
        go_wp2_with fail
        refine wp_region_ext (by kernel_rfl) (by kernel_rfl) ?_
        iterate 9 (apply quiet_val; (focus rfl); (focus (intro w' hw'; have hk' := hw'.cells; go_simp; all_goals exact rfl)); simp only [Act.put, List.setIfInBounds_toArray, List.set_cons_succ, List.set_cons_zero])
        refine wpQuiet_nil ?_
        intro W2 hx2
        have HX2 := hide (HXL.out.trans hx2)
        clear hx2
        go_wp2_with fail
        go_roundw
        case rel => exact ⟨j + 1, by rw [← HJT.out]; go_num, by omega, fun j' h => by have := HNO2.out j' h; omega, HX2.out⟩
        case measure => simp [intOf]; omega
    · obtain rfl : j = dur := by omega
      have htI : ¬ (t : Int) < (a : Int) + j := by omega
      have HCR := hide (show (!crB ts c ds i a) = true by
        rw [show crB ts c ds i a = false from anyB_false.2 fun j' hj' => by
          rw [HDU.out, Int.toNat_natCast] at hj'
          have := HNO.out j' hj'
          rw [decide_eq_false_iff_not, HDE.out, show ((a : Int) + (j' : Int)) = ((a + j' : Nat) : Int) by omega]
          omega]; rfl)
      clear ht hx
      go_wp2_with fail
      go_ret
      exact Ret.mk (ret_b HCR.out.symm) HX.out
end Go.Proofs.YtjpdebgejlfeaaaDoor
/- The reference's TimetableFilter. Printed by genttr.py. -/
namespace Go.Proofs.YtjpdebgejlfeaaaDoor
open Go.RowKit

set_option maxHeartbeats 1000000 in
theorem equalIntsT_any (v v' : Value) (xs ys : List Int) (w : World) (hS : SInts w v xs) (hS' : SInts w v' ys) :
    Calls Tryd.prog 22 #[v, v'] w (Ret (.bool (decide (xs = ys))) w) := by
  have hS0 := hide hS
  have hS0' := hide hS'
  obtain ⟨A, cp, rfl, hl, hlen⟩ := hS.form
  obtain ⟨A', cp', rfl, hl', -⟩ := hS'.form
  clear hS hS'
  by_cases he : xs.length = ys.length
  · have heI : ((xs.length : Int) != (ys.length : Int)) = false := by simp [he]
    have HE := hide he
    clear he
    go_enter Tryd.func22, Tryd.ntmps22
    go_wp2
    go_loopw [5] (fun i wr => ∃ k : Nat, k ≤ xs.length ∧ i = .int .i64 k ∧ Ext w wr ∧ ∀ j, j < k → at0 xs j = at0 ys j) (fun i _ => xs.length - (intOf i).toNat)
    case atStart => exact ⟨0, Nat.zero_le _, rfl, Ext.refl w, fun j hj => by omega⟩
    case round =>
      obtain ⟨k, hk, rfl, hxr, hall⟩ := hrel
      have HA := hide hall
      clear hall
      by_cases hlt : k < xs.length
      · have hlt2 : k < ys.length := by rw [← HE.out]; exact hlt
        have hltI : (k : Int) < xs.length := by omega
        have hltI2 : (k : Int) < ys.length := by omega
        obtain ⟨b, off, rfl, hbl, f1⟩ := (hS0.out.ext hxr).at_ hlt
        obtain ⟨b', off', rfl, hbl', f1'⟩ := (hS0'.out.ext hxr).at_ hlt2
        cases hd : (at0 xs k != at0 ys k) with
        | true =>
          have HD := hide (show decide (xs = ys) = false by
            rw [decide_eq_false_iff_not]; intro e; rw [e] at hd; simp at hd)
          have HX := hide hxr
          clear hxr
          go_wp2
          refine wp_region_ext (by kernel_rfl) (by kernel_rfl) ?_
          iterate 9 (apply quiet_val; (focus rfl); (focus (intro w' hw'; have hk' := hw'.cells; go_simp; all_goals exact rfl)); simp only [Act.put, List.setIfInBounds_toArray, List.set_cons_succ, List.set_cons_zero])
          refine wpQuiet_nil ?_
          intro w2 hx2
          have HX2 := hide (HX.out.trans hx2)
          clear hx2
          go_wp2
          go_ret
          exact Ret.mk (ret_b HD.out.symm) HX2.out
        | false =>
          have HD := hide (show at0 xs k = at0 ys k by simpa using hd)
          have HX := hide hxr
          clear hxr
          go_wp2
          refine wp_region_ext (by kernel_rfl) (by kernel_rfl) ?_
          iterate 9 (apply quiet_val; (focus rfl); (focus (intro w' hw'; have hk' := hw'.cells; go_simp; all_goals exact rfl)); simp only [Act.put, List.setIfInBounds_toArray, List.set_cons_succ, List.set_cons_zero])
          refine wpQuiet_nil ?_
          intro w2 hx2
          have HX2 := hide (HX.out.trans hx2)
          clear hx2
          go_wp2
          go_roundw
          case rel => exact ⟨k + 1, by omega, by go_num, HX2.out, fun j hj => by
            by_cases e : j = k
            · subst e; exact HD.out
            · exact HA.out j (by omega)⟩
          case measure => simp [intOf]; omega
      · obtain rfl : k = xs.length := by omega
        have hkI : ¬ ((xs.length : Int) < xs.length) := by omega
        have HD := hide (show decide (xs = ys) = true from decide_eq_true (at0_ext HE.out HA.out))
        go_wp2
        go_ret
        exact Ret.mk (ret_b HD.out.symm) hxr
  · have heI : ((xs.length : Int) != (ys.length : Int)) = true := by simp; omega
    have HD := hide (show decide (xs = ys) = false by
      rw [decide_eq_false_iff_not]; intro e; exact he (by rw [e]))
    clear he
    go_enter Tryd.func22, Tryd.ntmps22
    go_wp2
    go_ret
    exact Ret.mk (ret_b HD.out.symm) (Ext.refl _)
set_option maxHeartbeats 1000000 in
theorem hasEmptyT_any (v : Value) (xs : List Int) (w : World) (hS : SInts w v xs) :
    Calls Tryd.prog 21 #[v] w fun e w' => e = .returned (.bool (hasI xs 0)) ∧ w = w' := by
  have hS0 := hide hS
  obtain ⟨A, c, rfl, -, hln⟩ := hS.form
  clear hS
  go_enter Tryd.func21, Tryd.ntmps21
  go_wp2
  go_loop [3] (fun i => ∃ k : Nat, k ≤ xs.length ∧ i = .int .i64 k ∧ ∀ j, j < k → ((0 : Int) == at0 xs j) = false) (fun i => xs.length - (intOf i).toNat)
  case atStart => exact ⟨0, Nat.zero_le _, rfl, fun j hj => by omega⟩
  case round =>
    obtain ⟨k, hk, rfl, hno⟩ := hrel
    have HNO := hide hno
    clear hno
    by_cases hlt : k < xs.length
    · obtain ⟨b, off, rfl, hbl, f1⟩ := hS0.out.at_ hlt
      have hkI : (k : Int) < xs.length := by omega
      cases hx : (at0 xs k == 0) with
      | true =>
        have HF := hide (show hasI xs 0 = true from anyB_iff.2 ⟨k, hlt, by rw [beq_iff_eq] at hx ⊢; exact hx.symm⟩)
        go_wp2
        go_ret
        exact ⟨ret_b HF.out.symm, rfl⟩
      | false =>
        have HX := hide (show ((0 : Int) == at0 xs k) = false by rw [beq_eq_false_iff_ne] at hx ⊢; exact fun h => hx h.symm)
        go_wp2
        go_round
        case rel => exact ⟨k + 1, by omega, by go_num, upto_succ HNO.out HX.out⟩
        case measure => simp [intOf]; omega
    · obtain rfl : k = xs.length := by omega
      have HF := hide (show hasI xs 0 = false from anyB_false.2 HNO.out)
      go_wp2
      go_ret
      exact ⟨ret_b HF.out.symm, rfl⟩
theorem AppI.low9T {base b1 : Nat} {w : World} {v : Value} {xs : List Int} (h : AppI base w v xs) (hb : b1 ≤ base) : AppI b1 w v xs := by
  refine ⟨h.1, ?_⟩
  rcases h.2 with hn | ⟨g, cap, cur, e, hg, rest⟩
  · exact .inl hn
  · exact .inr ⟨g, cap, cur, e, Nat.le_trans hb hg, rest⟩
/-- The sum of the powers of the first k numbers of l that fit. -/
def fitS (p : Nat → Bool) (l : List Int) : Nat → Int
  | 0 => 0
  | k + 1 => fitS p l k + (if p (at0 l k).toNat then 2 ^ (at0 l k).toNat else 0)
def sumK (f : Nat → Bool) : Nat → Int
  | 0 => 0
  | k + 1 => sumK f k + (if f k then 2 ^ k else 0)
theorem sumK_6 (f : Nat → Bool) : sumK f 6 = sumB f := by
  simp [sumK, sumB]
theorem at0_appT (l m : List Int) {k : Nat} (h : k < l.length) : at0 (l ++ m) k = at0 l k := by simp [at0, List.getElem?_append_left h]
theorem fitS_app (p : Nat → Bool) (l m : List Int) : ∀ k, k ≤ l.length → fitS p (l ++ m) k = fitS p l k
  | 0, _ => rfl
  | k + 1, hk => by rw [fitS, fitS, fitS_app p l m k (by omega), at0_appT l m (by omega)]
theorem fitS_domK (p : Nat → Bool) (d : Int) : ∀ k, fitS p (domK d k) (domK d k).length = sumK (fun v => hasB d v && p v) k
  | 0 => rfl
  | k + 1 => by
    have ih := fitS_domK p d k
    rw [sumK, ← ih, show domK d (k + 1) = if hasB d k = true then domK d k ++ [(k : Int)] else domK d k from rfl]
    cases hb : hasB d k with
    | true =>
      rw [if_pos rfl, List.length_append, List.length_singleton, fitS, fitS_app p _ _ _ (Nat.le_refl _)]
      have e : at0 (domK d k ++ [(k : Int)]) (domK d k).length = k := by simp [at0]
      rw [e, Int.toNat_natCast, Bool.true_and]
    | false => rw [if_neg (by simp)]; simp
theorem fitS_domL (p : Nat → Bool) (d : Int) : fitS p (domL d) (domL d).length = sumB (fun v => hasB d v && p v) := by
  rw [← sumK_6]
  exact fitS_domK p d 6
theorem fitS_bd (p : Nat → Bool) {l : List Int} (hl : ∀ s, s < l.length → ∃ a : Nat, at0 l s = a ∧ a < 6) : ∀ k, k ≤ l.length → 0 ≤ fitS p l k ∧ fitS p l k ≤ 32 * k
  | 0, _ => by simp [fitS]
  | k + 1, hk => by
    have ih := fitS_bd p hl k (by omega)
    obtain ⟨a, ha, ha6⟩ := hl k (by omega)
    have := pow_bd ha6
    rw [fitS, ha, Int.toNat_natCast]
    split <;> omega
set_option maxRecDepth 100000 in
set_option maxHeartbeats 8000000 in
theorem timetableOnce_any (v vd : Value) (ts : List Tk) (ds : List Int) (c : Int) (w : World) (hS : STasks w v ts) (hD : SInts w vd ds) (hv : vTks ts = true) (hl : ds.length = ts.length) (hd : ∀ k, k < ds.length → 1 ≤ at0 ds k ∧ at0 ds k ≤ 63) :
    Calls Tryd.prog 20 #[v, vd, .int .i64 c] w (OwnRes (ttS ts c ds) w) := by
  have HS := hide hS
  have HD := hide hD
  have HV := hide hv
  obtain ⟨At, ct, rfl, -, -⟩ := hS.form
  obtain ⟨Ad, cd, rfl, -, -⟩ := hD.form
  obtain ⟨hn1, hn4, -⟩ := vTks_bits hv
  have HDB := hide hd
  have HL := hide hl
  obtain ⟨R, hR⟩ : ∃ R, R = ttR ts c ds := ⟨_, rfl⟩
  have HRR := hide hR
  have HSR := hide (show ttS ts c ds = R by rw [hR]; exact ttS_eq (fun i hi => by have := hd i hi; omega))
  have hRl : R.length = ts.length := by rw [hR, ttR]; simp [hl]
  have HRL := hide hRl
  have HRB := hide (show ∀ i, i < R.length → 0 ≤ at0 R i ∧ at0 R i ≤ 63 from fun i hi => by
    rw [hR, ttR] at hi ⊢
    unfold at0
    rw [getD_lt _ _ hi, List.getElem_map]
    exact sumB_bdT _)
  clear hS hD hv hl hd hR hRl
  go_enter Tryd.func20, Tryd.ntmps20
  go_wp2_with fail
  go_loopw [7, 8] (fun o i wr => ∃ k : Nat, k ≤ ts.length ∧ i = .int .i64 k ∧ Ext w wr ∧ AppI w.heap.size wr o (R.take k)) (fun _ i _ => ts.length - (intOf i).toNat)
  case atStart => exact ⟨0, Nat.zero_le _, rfl, (Ext.refl w).alloc _, AppI.empty w⟩
  case round =>
    obtain ⟨k, hk, rfl, hx, hA⟩ := hrel
    obtain ⟨W0, hW0⟩ : ∃ W0, W0 = wr := ⟨wr, rfl⟩
    subst hW0
    have HX := hide hx
    have HA := hide hA
    have htk : (R.take k).length = k := by rw [List.length_take, HRL.out]; omega
    obtain ⟨Ao, co, hvo, -⟩ := hA.form
    rw [htk] at hvo
    subst hvo
    have HTK := hide htk
    clear hx hA htk
    by_cases hlt : k < ts.length
    · have hkI : (k : Int) < ts.length := by omega
      have hkd : k < ds.length := by rw [HL.out]; exact hlt
      have hkdI : (k : Int) < ds.length := by omega
      go_wp2_with fail
      refine (profileOf_any _ _ ts ds k _ (HS.out.ext HX.out) (HD.out.ext HX.out) HV.out HL.out HDB.out).mono ?_
      rintro e W1 ⟨bp, hbp, rfl, hrp, hx1⟩
      have HX1 := hide (HX.out.trans hx1)
      have HRP := hide hrp
      have HA1 := hide (AppI.ext HA.out hx1)
      obtain ⟨bd, od, hAd, hbd, fd⟩ := HD.out.at_ hkd
      subst hAd
      have hdk := HDB.out k hkd
      obtain ⟨d, hdv⟩ : ∃ d, d = at0 ds k := ⟨_, rfl⟩
      rw [← hdv] at fd hdk
      have HDV := hide hdv
      have fd := (HX1.out.cells _ _ hbd).trans fd
      have hbdW := Nat.lt_of_lt_of_le hbd HX1.out.size
      clear hrp hx1 hdv
      go_wp2_with fail
      refine (domainValues_any d _ (by omega) (by omega)).mono ?_
      rintro e W2 ⟨A2, c2, b2, m2, f2, rfl, hc2, hd2, hb2, ho2, hx2⟩
      have HX2 := hide (HX1.out.trans hx2)
      have HO2 := hide ho2
      have HRP2 := hide (hx2.row HRP.out)
      have HA2 := hide (AppI.ext HA1.out hx2)
      have hdl := domL_len d
      obtain ⟨p, hp⟩ : ∃ p : Nat → Bool, p = fun v => !crB ts c ds k v := ⟨_, rfl⟩
      have HP := hide hp
      have HEND := hide (show fitS p (domL d) (domL d).length = ttE ts c ds k by rw [fitS_domL, ttE, hp, HDV.out])
      obtain ⟨bt, ot, hAt, hbt, f0, f1, f2'⟩ := HS.out.at_ hlt
      subst hAt
      have HF0 := hide f0
      have HF1 := hide f1
      have HF2 := hide f2'
      clear ho2 hx2 fd hp f0 f1 f2'
      go_wp2_with fail
      go_loopw [11, 12] (fun dv kk wr => ∃ t : Nat, t ≤ (domL d).length ∧ kk = .int .i64 t ∧ dv = .int .i64 (fitS p (domL d) t) ∧ Ext W2 wr) (fun _ kk _ => (domL d).length - (intOf kk).toNat)
      case atStart => exact ⟨0, Nat.zero_le _, rfl, rfl, Ext.refl _⟩
      case round =>
        obtain ⟨t, ht, rfl, hdvv, hx3⟩ := hrel
        obtain ⟨W3, hW3⟩ : ∃ W3, W3 = wr := ⟨wr, rfl⟩
        subst hW3
        obtain ⟨s, hs⟩ : ∃ s : Int, s = fitS p (domL d) t := ⟨_, rfl⟩
        rw [← hs] at hdvv
        subst hdvv
        have HSV := hide hs
        have hsb := fitS_bd p (fun s hs => domL_val d hs) t ht
        rw [← hs] at hsb
        have HX3 := hide (HX2.out.trans hx3)
        have HXL := hide hx3
        clear hs
        by_cases htl : t < (domL d).length
        · have htI : (t : Int) < (domL d).length := by omega
          obtain ⟨rfl, hr2, hm2, hf2⟩ := HO2.out (by omega)
          obtain ⟨a, ha, ha6⟩ := domL_val d htl
          have fa := (hx3.row hr2).cell (i := t) (by omega)
          rw [hf2 t htl, ha] at fa
          have hb2W := (hx3.row hr2).lt
          have HAV := hide ha
          have f0 := (HX3.out.cells _ _ hbt).trans HF0.out
          have f1 := (HX3.out.cells _ _ hbt).trans HF1.out
          have f2' := (HX3.out.cells _ _ hbt).trans HF2.out
          have hbtW := Nat.lt_of_lt_of_le hbt HX3.out.size
          have hpw := pow_bd ha6
          have kp : IntKind.i64.wrap (2 ^ a) = 2 ^ a := IntWalk.i64_in _ (by omega)
          have ks2 : IntKind.i64.wrap (s + 2 ^ a) = s + 2 ^ a := IntWalk.i64_in _ (by omega)
          clear hx3 hr2 hf2 ha
          cases hcr : crB ts c ds k a with
          | true =>
            have HNX := hide (show fitS p (domL d) (t + 1) = s by
              have hpa : p a = false := by rw [HP.out]; simp [hcr]
              rw [fitS, HAV.out, Int.toNat_natCast, ← HSV.out, hpa]; simp)
            have HC := hide (fun (W : World) (hW : Ext W3 W) => (show Calls Tryd.prog 40 #[.slice (some ⟨bp, 0, none⟩) 11 11, .agg #[.int .i64 (tkS ts k), .int .i64 (tkD ts k), .int .i64 (tkM ts k)], .int .i64 a, .int .i64 c] W (Ret (.bool false) W) by
              have h := fitsProfile_any bp ts ds c k a W ((HXL.out.trans hW).row HRP2.out) HV.out hlt ha6
              rw [hcr] at h
              exact h))
            clear hcr
            go_wp2_with fail
            refine wp_region_ext (by kernel_rfl) (by kernel_rfl) ?_
            iterate 10 (apply quiet_val; (focus rfl); (focus (intro w' hw'; have hk' := hw'.cells; go_simp; all_goals exact rfl)); simp only [Act.put, List.setIfInBounds_toArray, List.set_cons_succ, List.set_cons_zero])
            apply quiet_call; (focus rfl); (focus (intro w' hw'; go_simp; all_goals (first | exact rfl | (apply And.intro <;> exact rfl))))
            · exact fun w' hw' => Ret.quiet (HC.out w' hw') hw'
            (simp only [Act.put, List.setIfInBounds_toArray, List.set_cons_succ, List.set_cons_zero])
            refine wpQuiet_nil ?_
            intro W4 hx4
            have HX4 := hide (HXL.out.trans hx4)
            clear hx4
            go_wp2_with fail
            go_roundw
            case rel => exact ⟨t + 1, by omega, by go_num, by rw [HNX.out], HX4.out⟩
            case measure => simp [intOf]; omega
          | false =>
            have HNX := hide (show fitS p (domL d) (t + 1) = s + 2 ^ a by
              have hpa : p a = true := by rw [HP.out]; simp [hcr]
              rw [fitS, HAV.out, Int.toNat_natCast, ← HSV.out, hpa]; simp)
            have HC := hide (fun (W : World) (hW : Ext W3 W) => (show Calls Tryd.prog 40 #[.slice (some ⟨bp, 0, none⟩) 11 11, .agg #[.int .i64 (tkS ts k), .int .i64 (tkD ts k), .int .i64 (tkM ts k)], .int .i64 a, .int .i64 c] W (Ret (.bool true) W) by
              have h := fitsProfile_any bp ts ds c k a W ((HXL.out.trans hW).row HRP2.out) HV.out hlt ha6
              rw [hcr] at h
              exact h))
            clear hcr
            go_wp2_with fail
            refine wp_region_ext (by kernel_rfl) (by kernel_rfl) ?_
            iterate 10 (apply quiet_val; (focus rfl); (focus (intro w' hw'; have hk' := hw'.cells; go_simp; all_goals exact rfl)); simp only [Act.put, List.setIfInBounds_toArray, List.set_cons_succ, List.set_cons_zero])
            apply quiet_call; (focus rfl); (focus (intro w' hw'; go_simp; all_goals (first | exact rfl | (apply And.intro <;> exact rfl))))
            · exact fun w' hw' => Ret.quiet (HC.out w' hw') hw'
            (simp only [Act.put, List.setIfInBounds_toArray, List.set_cons_succ, List.set_cons_zero])
            refine wpQuiet_nil ?_
            intro W4 hx4
            have HX4 := hide (HXL.out.trans hx4)
            have fa := (hx4.cells _ _ hb2W).trans fa
            clear hx4 f0 f1 f2'
            go_wp2_with fail
            go_roundw
            case rel => exact ⟨t + 1, by omega, by go_num, by rw [HNX.out], HX4.out⟩
            case measure => simp [intOf]; omega
        · obtain rfl : t = (domL d).length := by omega
          have htI : ¬ (((domL d).length : Int) < (domL d).length) := by omega
          have HS2 := hide (show s = ttE ts c ds k by rw [HSV.out]; exact HEND.out)
          have HTN := hide (show R.take k ++ [s] = R.take (k + 1) by
            have hkr : k < R.length := by rw [HRL.out]; exact hlt
            rw [List.take_add_one, List.getElem?_eq_getElem hkr, HS2.out]
            congr 1
            have e : R[k] = ttE ts c ds k := by
              have h1 : R[k]? = some (ttE ts c ds k) := by rw [HRR.out, ttR]; simp [hkd]
              rw [List.getElem?_eq_getElem hkr] at h1
              injection h1
            rw [e]; rfl)
          have HA3 := hide (AppI.ext HA2.out hx3)
          have hws := HX3.out.size
          clear hx3
          go_wp2_with (at_builtin; go_must (refine wpList_app1 _ rfl _ _ rfl w.heap.size _ (R.take k) s W3.heap.size 1 rfl rfl (AppI.ext HA3.out ((Ext.refl W3).alloc _)) (by go_simp) (by have := HTK.out; omega) (by simp; omega) ?_); intro v' W6 hA6 hb6; rw [HTN.out] at hA6; obtain ⟨A6, c6, hv6, -⟩ := hA6.form; rw [show (R.take (k + 1)).length = k + 1 by rw [List.length_take, HRL.out]; omega] at hv6; subst hv6; have HA6 := hide hA6; have HB6 := hide hb6; clear hA6 hb6)
          go_wp2_with fail
          go_roundw
          case rel => exact ⟨k + 1, by omega, by go_num, (HX3.out.alloc _).below HB6.out, HA6.out⟩
          case measure => simp [intOf]; omega
    · obtain rfl : k = ts.length := by omega
      have hkI : ¬ (ts.length : Int) < ts.length := by omega
      have HAR := hide (show AppI w.heap.size W0 (.slice Ao ts.length co) R by have h := HA.out; rw [List.take_of_length_le (by rw [HRL.out]; exact Nat.le_refl _)] at h; exact h)
      go_wp2_with fail
      go_ret
      rw [HSR.out]
      exact HAR.out.res HX.out (by rw [HRL.out]; omega)
theorem zer_ownT {w w' : World} {b n : Nat} (hr : w'.rowIs b 3 n (fun _ => .int .i64 0)) (hb : w.heap.size ≤ b) (hx : Ext w w') (h4 : n ≤ 4) : OwnRes (zer n) w (.returned (.slice (some ⟨b, 0, none⟩) n n)) w' :=
  ⟨_, n, b, n, _, by rw [zer_len], by rw [zer_len]; exact Nat.le_refl _, by rw [zer_len]; omega, hb, fun _ => ⟨rfl, hr, by rw [zer_len]; exact Nat.le_refl _, fun i _ => by rw [zer_at]⟩, hx⟩
set_option maxRecDepth 100000 in
set_option maxHeartbeats 8000000 in
theorem TimetableS_any (v : Value) (ts : List Tk) (c : Int) (w : World) (hS : STasks w v ts) :
    Calls Tryd.prog 6 #[v, .int .i64 c] w (OwnRes (ttV ts c) w) := by
  have HS := hide hS
  obtain ⟨At, ct, rfl, -, -⟩ := hS.form
  clear hS
  go_enter Tryd.func6, Tryd.ntmps6
  go_wp2_with fail
  refine (validTasks_any _ ts c _ HS.out).mono ?_
  rintro e w1 ⟨rfl, hx1⟩
  have HX1 := hide hx1
  clear hx1
  cases hv : vTks ts && inR c 0 9 with
  | false =>
    have HVV := hide (show ttV ts c = [] by rw [ttV, hv]; rfl)
    clear hv
    go_wp2_with fail
    go_ret
    rw [HVV.out]
    exact OwnRes.nil_ rfl HX1.out
  | true =>
    have HVV := hide (show ttV ts c = fixL (ttS ts c) 300 (startsL ts) by rw [ttV, hv]; rfl)
    have hv2 := hv
    rw [Bool.and_eq_true] at hv2
    have HV := hide hv2.1
    obtain ⟨hn1, hn4, -⟩ := vTks_bits hv2.1
    have HST := hide (starts_tt hv2.1).1
    have HSZ := hide (starts_tt hv2.1).2
    obtain ⟨R, hR⟩ : ∃ R, R = startsL ts := ⟨_, rfl⟩
    have HRR := hide hR
    rw [← hR] at HVV HST HSZ
    have hRl : R.length = ts.length := HST.out.1
    have HRL := hide hRl
    clear hv hv2 hR hRl
    go_wp2_with fail
    go_loopw [5, 6] (fun o i wr => ∃ k : Nat, k ≤ ts.length ∧ i = .int .i64 k ∧ Ext w wr ∧ AppI w.heap.size wr o (R.take k)) (fun _ i _ => ts.length - (intOf i).toNat)
    case atStart => exact ⟨0, Nat.zero_le _, rfl, HX1.out.trans ((Ext.refl w1).alloc _), AppI.low9T (AppI.empty w1) HX1.out.size⟩
    case round =>
      obtain ⟨k, hk, rfl, hx, hA⟩ := hrel
      obtain ⟨W0, hW0⟩ : ∃ W0, W0 = wr := ⟨wr, rfl⟩
      subst hW0
      have HX := hide hx
      have HA := hide hA
      have hws := hx.size
      have htk : (R.take k).length = k := by rw [List.length_take, HRL.out]; omega
      obtain ⟨Ao, co, hvo, -⟩ := hA.form
      rw [htk] at hvo
      subst hvo
      have HTK := hide htk
      clear hx hA htk
      by_cases hlt : k < ts.length
      · have hkI : (k : Int) < ts.length := by omega
        obtain ⟨bt, ot, rfl, hbt, f0, -, -⟩ := HS.out.at_ hlt
        have f0 := (HX.out.cells _ _ hbt).trans f0
        obtain ⟨s, hs⟩ : ∃ s, s = tkS ts k := ⟨_, rfl⟩
        rw [← hs] at f0
        have HTN := hide (show R.take k ++ [s] = R.take (k + 1) by
          have hkr : k < R.length := by rw [HRL.out]; exact hlt
          rw [List.take_add_one, List.getElem?_eq_getElem hkr, hs]
          congr 1
          have e : R[k] = tkS ts k := by
            have h1 := startsL_at ts hlt
            rw [← HRR.out] at h1
            unfold at0 at h1
            rwa [getD_lt _ _ hkr] at h1
          rw [e]; rfl)
        clear hs
        go_wp2_with (at_builtin; go_must (refine wpList_app1 _ rfl _ _ rfl w.heap.size _ (R.take k) s W0.heap.size 1 rfl rfl (AppI.ext HA.out ((Ext.refl W0).alloc _)) (by go_simp) (by have := HTK.out; omega) (by simp; omega) ?_); intro v' W6 hA6 hb6; rw [HTN.out] at hA6; obtain ⟨A6, c6, hv6, -⟩ := hA6.form; rw [show (R.take (k + 1)).length = k + 1 by rw [List.length_take, HRL.out]; omega] at hv6; subst hv6; have HA6 := hide hA6; have HB6 := hide hb6; clear hA6 hb6)
        go_wp2_with fail
        go_roundw
        case rel => exact ⟨k + 1, by omega, by go_num, (HX.out.alloc _).below HB6.out, HA6.out⟩
        case measure => simp [intOf]; omega
      · obtain rfl : k = ts.length := by omega
        have hkI : ¬ (ts.length : Int) < ts.length := by omega
        have HAR := hide (show AppI w.heap.size W0 (.slice Ao ts.length co) R by have h := HA.out; rw [List.take_of_length_le (by rw [HRL.out]; exact Nat.le_refl _)] at h; exact h)
        have HO := hide (HAR.out.res HX.out (by rw [HRL.out]; omega))
        go_wp2_with fail
        go_loopg [5] 300 (fun gk v wr => ∃ now : List Int, OwnRes now w (.returned v) wr ∧ TtG ts.length now ∧ hasI now 0 = false ∧ fixL (ttS ts c) 300 R = fixL (ttS ts c) gk now ∧ sumL now < gk)
        case atStart => exact ⟨R, HO.out, HST.out, HSZ.out, rfl, by have := sumL_bd R HST.out.2; have := HRL.out; omega⟩
        case round =>
          obtain ⟨now, how, hg, hnz, hit, hsum⟩ := hrel
          obtain ⟨A, cc, b, m, f, hv, hc, hb, hnb, ho, hx⟩ := id how
          injection hv with hv
          have hnl : now.length = ts.length := hg.1
          rw [hnl] at hv
          subst hv
          have HOW := hide how
          have HG := hide hg
          have HNZ := hide hnz
          have HIT := hide hit
          have HSN := hide (show SInts wr (.slice A ts.length cc) now by
            have h := SInts.own hc hb ho (fun i hi => by have := hg.2 i hi; unfold I64; omega)
            rw [hnl] at h
            exact h)
          have HXW := hide hx
          have hsb := (sumL_bd now hg.2).1
          obtain ⟨g, rfl⟩ : ∃ g, gk = g + 1 := ⟨gk - 1, by omega⟩
          have HNL := hide hnl
          clear how hg hnz hit ho hx hc hb hnb hnl
          go_wp2_with fail
          refine (timetableOnce_any _ _ ts now c _ (HS.out.ext HXW.out) (by have h := HSN.out; rw [← HNL.out] at h ⊢; exact h) HV.out HNL.out (fun k hk => by
            have h1 := HG.out.2 k hk
            have h2 : at0 now k ≠ 0 := fun e => by have h3 := HNZ.out; rw [hasI_iff.2 ⟨k, hk, e⟩] at h3; cases h3
            omega)).mono ?_
          rintro e w3 ⟨A3, c3, b3, m3, f3, rfl, hc3, hd3, hb3, ho3, hx3⟩
          have hst := ttS_ok ts c ts.length
          have HGS := hide (hst.stay now HG.out)
          have HSUB := hide (hst.sub now HG.out)
          have hsl : (ttS ts c now).length = ts.length := HGS.out.1
          have HS3 := hide (show SInts w3 (.slice A3 ts.length c3) (ttS ts c now) by
            have h := SInts.own hc3 hd3 ho3 (fun i hi => by have := HGS.out.2 i hi; unfold I64; omega)
            rw [hsl] at h
            exact h)
          have HO3 := hide (show OwnRes (ttS ts c now) w (.returned (.slice A3 ts.length c3)) w3 from ⟨A3, c3, b3, m3, f3, by rw [hsl], by rw [hsl] at hc3 ⊢; exact hc3, hd3, Nat.le_trans HXW.out.size hb3, ho3, HXW.out.trans hx3⟩)
          have HX3 := hide (HXW.out.trans hx3)
          have HSW := hide (HSN.out.ext hx3)
          have HOW3 := hide (HOW.out.grow hx3)
          rw [hsl]
          clear hc3 hd3 hb3 ho3 hx3 hst hsl
          go_wp2_with fail
          refine (hasEmptyT_any _ (ttS ts c now) _ HS3.out).mono ?_
          rintro e w4 ⟨rfl, rfl⟩
          cases hz : hasI (ttS ts c now) 0 with
          | true =>
            have HZ := hide (show fixL (ttS ts c) 300 R = zer ts.length by
              rw [HIT.out, fixL, if_neg (by rw [HNZ.out]; simp)]
              by_cases he : ttS ts c now = now
              · rw [he, HNZ.out] at hz; cases hz
              · rw [if_neg he]
                obtain ⟨k2, rfl⟩ : ∃ k2, g = k2 + 1 := ⟨g - 1, by
                  have := SubD.sum HGS.out.2 HG.out.2 HSUB.out he
                  have := (sumL_bd (ttS ts c now) HGS.out.2).1
                  omega⟩
                rw [fixL, if_pos hz, HGS.out.1])
            clear hz
            go_wp2_with (at_make; go_must (refine wpList_make_gen _ rfl _ _ 24 rfl 3 (.int .i64 0) 1 8 Tryd.underlying24 Tryd.infoI .i64 .i64 ts.length rfl rfl (by omega) (by omega) (fun _ => .int .i64 0) (fun i _ => by simp [Value.cells, Nat.mod_one]) ?_); intro w5 hrow5 hsz5 hx5; rw [Nat.mul_one] at hrow5; have HROW5 := hide hrow5; have HX5 := hide hx5; clear hrow5 hsz5 hx5)
            go_ret
            rw [HVV.out, HZ.out]
            exact zer_ownT HROW5.out HX3.out.size (HX3.out.trans HX5.out) hn4
          | false =>
            by_cases he : ttS ts c now = now
            · have HE := hide (show fixL (ttS ts c) 300 R = now by rw [HIT.out, fixL, if_neg (by rw [HNZ.out]; simp), if_pos he])
              have hed : decide (ttS ts c now = now) = true := decide_eq_true he
              clear hz
              go_wp2_with fail
              refine (equalIntsT_any _ _ (ttS ts c now) now _ HS3.out HSW.out).mono ?_
              rw [hed]
              rintro e w5 ⟨rfl, hx5⟩
              have HR := hide (HOW3.out.grow hx5)
              clear hx5 hed he
              go_wp2_with fail
              go_ret
              rw [HVV.out, HE.out]
              exact HR.out
            · have HE := hide (show fixL (ttS ts c) 300 R = fixL (ttS ts c) g (ttS ts c now) by rw [HIT.out, fixL, if_neg (by rw [HNZ.out]; simp), if_neg he])
              have hed : decide (ttS ts c now = now) = false := decide_eq_false he
              have hss := SubD.sum HGS.out.2 HG.out.2 HSUB.out he
              have HZZ := hide hz
              clear hz
              go_wp2_with fail
              refine (equalIntsT_any _ _ (ttS ts c now) now _ HS3.out HSW.out).mono ?_
              rw [hed]
              rintro e w5 ⟨rfl, hx5⟩
              have HR := hide (HO3.out.grow hx5)
              clear hx5 hed he
              go_wp2_with fail
              go_roundg g
              case measure => omega
              case rel => exact ⟨ttS ts c now, HR.out, HGS.out, HZZ.out, HE.out, by omega⟩
end Go.Proofs.YtjpdebgejlfeaaaDoor
