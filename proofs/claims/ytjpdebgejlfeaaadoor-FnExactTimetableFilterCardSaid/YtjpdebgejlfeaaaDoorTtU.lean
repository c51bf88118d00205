/- The reference's profile and what fits above it. -/
import Derived.Test.YtjpdebgejlfeaaaDoorTtI
import Derived.Test.YtjpdebgejlfeaaaDoorCompS
import Derived.Test.YtjpdebgejlfeaaaDoorTail
import Derived.Deep.CutBlock
import Derived.Deep.DeepCutAuto
namespace Go.Proofs.YtjpdebgejlfeaaaDoor
open Go.RowKit

/-- What the first k tasks but one need at time t, and task k from lo up to u. -/
def tcE (ts : List Tk) (ds : List Int) (but k lo u t : Nat) : Int := ttK ts ds but t k + (if k ≠ but ∧ lo ≤ t ∧ t < u then tkM ts k else 0)
theorem ttK_succ (ts : List Tk) (ds : List Int) (i : Nat) (t : Int) (k : Nat) : ttK ts ds i t (k + 1) = ttK ts ds i t k + (if k ≠ i ∧ (topB (at0 ds k).toNat : Int) ≤ t ∧ t < (lowB (at0 ds k).toNat : Int) + tkD ts k then tkM ts k else 0) := rfl
def tcV (f : Nat → Int) (t : Nat) : Value := .int .i64 (f t)
def ProGot (ts : List Tk) (ds : List Int) (but : Nat) (w : World) (e : Ending) (w' : World) : Prop :=
  ∃ b, w.heap.size ≤ b ∧ e = .returned (.slice (some ⟨b, 0, none⟩) 11 11) ∧ w'.rowIs b 3 11 (tcV (fun t => ttK ts ds but t ts.length)) ∧ Ext w w'
set_option maxRecDepth 100000 in
set_option maxHeartbeats 8000000 in
theorem profileOf_any (v vd : Value) (ts : List Tk) (ds : List Int) (but : Nat) (w : World) (hS : STasks w v ts) (hD : SInts w vd ds) (hv : vTks ts = true) (hl : ds.length = ts.length) (hd : ∀ k, k < ds.length → 1 ≤ at0 ds k ∧ at0 ds k ≤ 63) :
    Calls Tryd.prog 38 #[v, vd, .int .i64 but] w (ProGot ts ds but w) := by
  have HS := hide hS
  have HD := hide hD
  obtain ⟨At, ct, rfl, -, -⟩ := hS.form
  obtain ⟨Ad, cd, rfl, -, -⟩ := hD.form
  obtain ⟨hn1, hn4, hbits⟩ := vTks_bits hv
  have HBT := hide hbits
  have HDB := hide hd
  have HL := hide hl
  clear hS hD hv hl hd hbits
  go_enter Tryd.func38, Tryd.ntmps38
  go_wp2_with (at_make; go_must (refine wpList_make_gen _ rfl _ _ 24 rfl 3 (.int .i64 0) 1 8 Tryd.underlying24 Tryd.infoI .i64 .i64 11 rfl rfl (by omega) (by omega) (fun _ => .int .i64 0) (fun i _ => by simp [Value.cells, Nat.mod_one]) ?_); intro w1 hrow hsz hx)
  have hrow0 : w1.rowIs w.heap.size 3 11 (tcV (fun t => ttK ts ds but t 0)) := hrow.congr fun i _ => by simp [tcV, ttK]
  have Hrow := hide hrow0
  clear hrow0 hrow
  go_loopw [8] (fun i wr => ∃ k : Nat, k ≤ ts.length ∧ i = .int .i64 k ∧ Ext w wr ∧ wr.rowIs w.heap.size 3 11 (tcV (fun t => ttK ts ds but t k))) (fun i _ => ts.length - (intOf i).toNat)
  case atStart => exact ⟨0, Nat.zero_le _, rfl, hx, Hrow.out⟩
  case round =>
    obtain ⟨k, hk, rfl, hxr, hr⟩ := hrel
    obtain ⟨W0, hW0⟩ : ∃ W0, W0 = wr := ⟨wr, rfl⟩
    subst hW0
    have HXR := hide hxr
    have HROW := hide hr
    have hB := hr.lt
    clear hxr hr
    by_cases hlt : k < ts.length
    · have hkI : (k : Int) < ts.length := by omega
      have hkd : k < ds.length := by rw [HL.out]; exact hlt
      have hkdI : (k : Int) < ds.length := by omega
      obtain ⟨bt, ot, rfl, hbt, f0, f1, f2⟩ := HS.out.at_ hlt
      have f1 := (HXR.out.cells _ _ hbt).trans f1
      have hbtW := Nat.lt_of_lt_of_le hbt HXR.out.size
      have hbb := HBT.out k hlt
      obtain ⟨dq, hdq⟩ : ∃ x, x = tkD ts k := ⟨_, rfl⟩
      obtain ⟨mq, hmq⟩ : ∃ x, x = tkM ts k := ⟨_, rfl⟩
      rw [← hdq] at f1 hbb
      rw [← hmq] at f2 hbb
      have HDQ := hide hdq
      have HMQ := hide hmq
      have HF2 := hide f2
      obtain ⟨bd, od, rfl, hbd, fd⟩ := HD.out.at_ hkd
      have hdk := HDB.out k hkd
      obtain ⟨dk, hdkv⟩ : ∃ dk : Nat, at0 ds k = dk := ⟨(at0 ds k).toNat, by omega⟩
      rw [hdkv] at fd hdk
      have hk1 : 1 ≤ dk := by omega
      have hk2 : dk ≤ 63 := by omega
      have HDK := hide hdkv
      have fd := (HXR.out.cells _ _ hbd).trans fd
      have hbdW := Nat.lt_of_lt_of_le hbd HXR.out.size
      have hlw := (domL_endsT hk1 hk2).2.2.2
      obtain ⟨lo, hi, hlh, hlh2⟩ : ∃ lo hi : Nat, compP dk dq = ((lo : Int), (hi : Int)) ∧ (lo ≤ hi ∧ hi ≤ 11 ∧ ∀ t : Nat, (lo ≤ t ∧ t < hi) ↔ ((topB dk : Int) ≤ (t : Int) ∧ (t : Int) < (lowB dk : Int) + dq)) := by
        by_cases h : (topB dk : Int) < lowB dk + dq
        · exact ⟨topB dk, ((lowB dk : Int) + dq).toNat, by rw [compP, if_pos h]; congr 1; omega, by omega, by omega, fun t => by omega⟩
        · exact ⟨0, 0, by rw [compP, if_neg h]; rfl, by omega, by omega, fun t => by omega⟩
      have hlo := hlh2.1
      have hhi := hlh2.2.1
      have HLH := hide hlh
      have HLT := hide hlh2.2.2
      have hd1 : 1 ≤ dq := by omega
      have hd6 : dq ≤ 6 := by omega
      have HR2 := hide (show W0.rowIs w.heap.size 3 11 (tcV (tcE ts ds but k lo lo)) from HROW.out.congr fun t _ => by
        unfold tcV tcE
        rw [if_neg (fun h => by omega), Int.add_zero])
      clear hdq hmq hdkv hdk f0 f2 hlh hlh2
      go_wp2_with fail
      refine wp_region_ext (by kernel_rfl) (by kernel_rfl) ?_
      iterate 9 (apply quiet_val; (focus rfl); (focus (intro w' hw'; have hk' := hw'.cells; go_simp; all_goals exact rfl)); simp only [Act.put, List.setIfInBounds_toArray, List.set_cons_succ, List.set_cons_zero])
      apply quiet_call; (focus rfl); (focus (intro w' hw'; go_simp; all_goals (first | exact rfl | (apply And.intro <;> exact rfl))))
      · exact fun w' hw' => Ret.quiet ((show Calls Tryd.prog 59 _ w' (Ret (.tuple #[.int .i64 (lo : Int), .int .i64 (hi : Int)]) w') by
          have h := compulsory_any dk dq w' hk1 hk2 hd1 hd6
          rw [HLH.out] at h
          exact h)) hw'
      (simp only [Act.put, List.setIfInBounds_toArray, List.set_cons_succ, List.set_cons_zero])
      iterate 5 (apply quiet_val; (focus rfl); (focus (intro w' hw'; have hk' := hw'.cells; go_simp; all_goals exact rfl)); simp only [Act.put, List.setIfInBounds_toArray, List.set_cons_succ, List.set_cons_zero])
      refine wpQuiet_nil ?_
      intro W1 hx1
      have HX1 := hide (HXR.out.trans hx1)
      have HR1 := hide (hx1.row HR2.out)
      have hB1 := Nat.lt_of_lt_of_le hB hx1.size
      clear hx1 fd f1
      go_wp2_with fail
      go_loopw [11] (fun tv wr => ∃ u : Nat, tv = .int .i64 u ∧ lo ≤ u ∧ u ≤ hi ∧ Ext w wr ∧ wr.rowIs w.heap.size 3 11 (tcV (tcE ts ds but k lo u))) (fun tv _ => hi - (intOf tv).toNat)
      case atStart => exact ⟨lo, rfl, Nat.le_refl _, hlo, HX1.out, HR1.out⟩
      case round =>
        obtain ⟨u, rfl, hu1, hu2, hx2, hr2⟩ := hrel
        obtain ⟨W2, hW2⟩ : ∃ W2, W2 = wr := ⟨wr, rfl⟩
        subst hW2
        have HX2 := hide hx2
        have HRW := hide hr2
        have hB2 := hr2.lt
        by_cases huh : u < hi
        · have huI : (u : Int) < hi := by omega
          by_cases hkb : k = but
          · have hne : ((k : Int) != (but : Int)) = false := by simp [hkb]
            have HEND := hide (show W2.rowIs w.heap.size 3 11 (tcV (fun t => ttK ts ds but t (k + 1))) from hr2.congr fun t _ => by
              unfold tcV tcE
              show _ = Value.int .i64 (ttK ts ds but (t : Int) (k + 1))
              rw [ttK_succ, if_neg (fun h => h.1 hkb), if_neg (fun h => h.1 hkb)])
            clear hr2 hx2 hkb
            go_wp2_with fail
            go_roundw
            case rel => exact ⟨k + 1, by omega, by go_num, HX2.out, HEND.out⟩
            case measure => simp [intOf]; omega
          · have hne : ((k : Int) != (but : Int)) = true := by simp; omega
            have u0 := hr2.cell (i := u) (by omega)
            have z0 := hr2.frozen u
            rw [tcV] at u0
            have hkb9 := ttK_bd (fun k hk => ⟨(HBT.out k hk).2.2.2.2.1, (HBT.out k hk).2.2.2.2.2⟩) ds but (u : Int) k hk
            have e0 : tcE ts ds but k lo u u = ttK ts ds but u k := by unfold tcE; rw [if_neg (fun h => by omega), Int.add_zero]
            rw [e0] at u0
            obtain ⟨pv, hpv⟩ : ∃ x, x = ttK ts ds but u k := ⟨_, rfl⟩
            rw [← hpv] at u0 hkb9
            have HPV := hide hpv
            have f2 := (HX2.out.cells _ _ hbt).trans HF2.out
            have hwr := IntWalk.i64_in (pv + mq) (by omega)
            have hu11 : (u : Int) < 11 := by omega
            have HNX := hide (show ∀ t, t < 11 → (if t = u then Value.int .i64 (pv + mq) else tcV (tcE ts ds but k lo u) t) = tcV (tcE ts ds but k lo (u + 1)) t from fun t _ => by
              by_cases e : t = u
              · subst e
                rw [if_pos rfl]
                unfold tcV tcE
                rw [if_pos ⟨hkb, by omega, by omega⟩, ← HPV.out, ← HMQ.out]
              · rw [if_neg e]
                unfold tcV tcE
                have : (k ≠ but ∧ lo ≤ t ∧ t < u) ↔ (k ≠ but ∧ lo ≤ t ∧ t < u + 1) := by omega
                simp only [this])
            have hbtW2 := Nat.lt_of_lt_of_le hbt HX2.out.size
            clear hr2 hx2 hpv e0 hkb
            go_wp2_with fail
            refine wp_region_ext_tail 13 (by kernel_rfl) (by kernel_rfl) ?_
            simp only [List.take_succ_cons, List.take_zero, List.drop_succ_cons, List.drop_zero]
            iterate 13 (apply quiet_val; (focus rfl); (focus (intro w' hw'; have hk' := hw'.cells; go_simp; all_goals exact rfl)); simp only [Act.put, List.setIfInBounds_toArray, List.set_cons_succ, List.set_cons_zero])
            refine wpQuiet_nil ?_
            intro W3 hx3
            have r3 := hx3.row HRW.out
            have u4 := r3.cell (i := u) (by omega)
            have z4 := r3.frozen u
            have HR3 := hide r3
            have HX3 := hide (HX2.out.trans hx3)
            clear hx3 r3 u0 z0 f2
            try simp only [hwr]
            go_wp2_with fail
            go_roundw
            case rel => exact ⟨u + 1, by go_num, by omega, by omega, HX3.out.set (Nat.le_refl _) _, (HR3.out.set u _).congr HNX.out⟩
            case measure => simp [intOf]; omega
        · obtain rfl : u = hi := by omega
          have huI : ¬ (u : Int) < u := by omega
          have HEND := hide (show W2.rowIs w.heap.size 3 11 (tcV (fun t => ttK ts ds but t (k + 1))) from hr2.congr fun t _ => by
            unfold tcV tcE
            show _ = Value.int .i64 (ttK ts ds but (t : Int) (k + 1))
            rw [ttK_succ]
            have := HLT.out t
            have h2 : (k ≠ but ∧ lo ≤ t ∧ t < u) ↔ (k ≠ but ∧ (topB (at0 ds k).toNat : Int) ≤ (t : Int) ∧ (t : Int) < (lowB (at0 ds k).toNat : Int) + tkD ts k) := by
              rw [HDK.out, Int.toNat_natCast, ← HDQ.out]
              exact and_congr_right fun _ => this
            simp only [h2])
          clear hr2 hx2
          go_wp2_with fail
          go_roundw
          case rel => exact ⟨k + 1, by omega, by go_num, HX2.out, HEND.out⟩
          case measure => simp [intOf]; omega
    · obtain rfl : k = ts.length := by omega
      have hkI : ¬ (ts.length : Int) < ts.length := by omega
      go_wp2_with fail
      go_ret
      exact ⟨_, Nat.le_refl _, rfl, HROW.out, HXR.out⟩
set_option maxRecDepth 100000 in
set_option maxHeartbeats 4000000 in
theorem fitsProfile_any (b : Nat) (ts : List Tk) (ds : List Int) (c : Int) (i a : Nat) (w : World) (hr : w.rowIs b 3 11 (tcV (fun t => ttK ts ds i t ts.length))) (hv : vTks ts = true) (hi : i < ts.length) (ha : a < 6) :
    Calls Tryd.prog 40 #[.slice (some ⟨b, 0, none⟩) 11 11, .agg #[.int .i64 (tkS ts i), .int .i64 (tkD ts i), .int .i64 (tkM ts i)], .int .i64 a, .int .i64 c] w (Ret (.bool (!crB ts c ds i a)) w) := by
  obtain ⟨hn1, hn4, hbits⟩ := vTks_bits hv
  have hbi := hbits i hi
  have HBT := hide hbits
  have HR := hide hr
  have hbl := hr.lt
  obtain ⟨dur, hdur⟩ : ∃ dur : Nat, tkD ts i = dur := ⟨(tkD ts i).toNat, by omega⟩
  obtain ⟨dem, hdem⟩ : ∃ dem : Int, tkM ts i = dem := ⟨_, rfl⟩
  obtain ⟨st, hst⟩ : ∃ st : Int, tkS ts i = st := ⟨_, rfl⟩
  have HDU := hide hdur
  have HDE := hide hdem
  have hdl : 1 ≤ dur ∧ dur ≤ 6 := by omega
  have hml : 0 ≤ dem ∧ dem ≤ 9 := by omega
  rw [hdur, hdem, hst]
  obtain ⟨w0, hw0⟩ : ∃ w0, w0 = w.alloc (.cells #[.int .i64 st, .int .i64 dur, .int .i64 dem] 42) := ⟨_, rfl⟩
  have HX0 := hide (show Ext w w0 by rw [hw0]; exact (Ext.refl w).alloc _)
  have k1 : w0.cell? ⟨w.heap.size, 1, none⟩ = some (.int .i64 dur) := by rw [hw0]; go_simp
  have k2 : w0.cell? ⟨w.heap.size, 2, none⟩ = some (.int .i64 dem) := by rw [hw0]; go_simp
  have ks : w.heap.size < w0.heap.size := by rw [hw0]; simp
  have K1 := hide k1
  have K2 := hide k2
  clear hr hv hbits hbi hdur hdem hst k1 k2
  go_enter Tryd.func40, Tryd.ntmps40
  go_wp2_with fail
  rw [← hw0]
  clear hw0
  go_loopw [9] (fun tv wr => ∃ j : Nat, tv = .int .i64 ((a + j : Nat) : Int) ∧ j ≤ dur ∧ (∀ j', j' < j → ¬ c < dem + ttK ts ds i ((a + j' : Nat) : Int) ts.length) ∧ Ext w0 wr) (fun tv _ => a + dur - (intOf tv).toNat)
  case atStart => exact ⟨0, rfl, Nat.zero_le _, fun j' h => absurd h (by omega), Ext.refl _⟩
  case round =>
    obtain ⟨j, hjv, hj, hno, hx⟩ := hrel
    obtain ⟨t, ht⟩ : ∃ t : Nat, t = a + j := ⟨_, rfl⟩
    rw [← ht] at hjv
    subst hjv
    obtain ⟨W0, hW0⟩ : ∃ W0, W0 = wr := ⟨wr, rfl⟩
    subst hW0
    have HX := hide (HX0.out.trans hx)
    have HXL := hide hx
    have HNO := hide hno
    have HTJ := hide ht
    have htb : t < 11 ∨ ¬ j < dur := by omega
    have c1 := (hx.cells _ _ ks).trans K1.out
    have c2 := (hx.cells _ _ ks).trans K2.out
    have ksW := Nat.lt_of_lt_of_le ks hx.size
    clear hno
    by_cases hjd : j < dur
    · have ht11 : t < 11 := by omega
      have htI : (t : Int) < (a : Int) + dur := by omega
      have ht11I : (t : Int) < 11 := by omega
      have u0 := (HX.out.row HR.out).cell (i := t) ht11
      rw [tcV] at u0
      have hkb9 := ttK_bd (fun k hk => ⟨(HBT.out k hk).2.2.2.2.1, (HBT.out k hk).2.2.2.2.2⟩) ds i (t : Int) ts.length (Nat.le_refl _)
      obtain ⟨pv, hpv⟩ : ∃ x, x = ttK ts ds i t ts.length := ⟨_, rfl⟩
      rw [← hpv] at u0 hkb9
      have HPV := hide hpv
      have hwr := IntWalk.i64_in (pv + dem) (by omega)
      have hblW := Nat.lt_of_lt_of_le hbl HX.out.size
      clear ht hx hpv htb
      by_cases hgt : c < pv + dem
      · have HCR := hide (show (!crB ts c ds i a) = false by
          rw [show crB ts c ds i a = true from anyB_iff.2 ⟨j, by rw [HDU.out, Int.toNat_natCast]; exact hjd, by rw [decide_eq_true_eq, HDE.out, show ((a : Int) + (j : Int)) = (t : Int) by have := HTJ.out; omega, ← HPV.out]; omega⟩]; rfl)
        have hgd : decide (c < pv + dem) = true := decide_eq_true hgt
        go_wp2_with fail
        refine wp_region_ext (by kernel_rfl) (by kernel_rfl) ?_
        iterate 9 (apply quiet_val; (focus rfl); (focus (intro w' hw'; have hk' := hw'.cells; go_simp; all_goals exact rfl)); simp only [Act.put, List.setIfInBounds_toArray, List.set_cons_succ, List.set_cons_zero])
        refine wpQuiet_nil ?_
        intro W2 hx2
        have HX2 := hide (HX.out.trans hx2)
        clear hx2
        go_wp2_with fail
        go_ret
        exact Ret.mk (ret_b HCR.out.symm) HX2.out
      · have HNO2 := hide (show ∀ j', j' < j + 1 → ¬ c < dem + ttK ts ds i ((a + j' : Nat) : Int) ts.length from fun j' hj' => by
          by_cases e : j' = j
          · subst e; rw [← HTJ.out, ← HPV.out]; omega
          · have := HNO.out j' (by omega); omega)
        have hgd : decide (c < pv + dem) = false := decide_eq_false hgt
        have HJT := hide (show t + 1 = a + (j + 1) by have := HTJ.out; omega)
        go_wp2_with fail
        refine wp_region_ext (by kernel_rfl) (by kernel_rfl) ?_
        iterate 9 (apply quiet_val; (focus rfl); (focus (intro w' hw'; have hk' := hw'.cells; go_simp; all_goals exact rfl)); simp only [Act.put, List.setIfInBounds_toArray, List.set_cons_succ, List.set_cons_zero])
        refine wpQuiet_nil ?_
        intro W2 hx2
        have HX2 := hide (HXL.out.trans hx2)
        clear hx2
        go_wp2_with fail
        go_roundw
        case rel => exact ⟨j + 1, by rw [← HJT.out]; go_num, by omega, fun j' h => by have := HNO2.out j' h; omega, HX2.out⟩
        case measure => simp [intOf]; omega
    · obtain rfl : j = dur := by omega
      have htI : ¬ (t : Int) < (a : Int) + j := by omega
      have HCR := hide (show (!crB ts c ds i a) = true by
        rw [show crB ts c ds i a = false from anyB_false.2 fun j' hj' => by
          rw [HDU.out, Int.toNat_natCast] at hj'
          have := HNO.out j' hj'
          rw [decide_eq_false_iff_not, HDE.out, show ((a : Int) + (j' : Int)) = ((a + j' : Nat) : Int) by omega]
          omega]; rfl)
      clear ht hx
      go_wp2_with fail
      go_ret
      exact Ret.mk (ret_b HCR.out.symm) HX.out
end Go.Proofs.YtjpdebgejlfeaaaDoor
