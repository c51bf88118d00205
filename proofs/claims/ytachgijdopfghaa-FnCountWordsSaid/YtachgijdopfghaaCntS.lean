/- The walk of CountWords in the reference. -/
import Derived.Test.YtachgijdopfghaaSums
import Derived.Test.YtachgijdopfghaaTail
namespace Go.Proofs.Ytachgijdopfghaa
open Go.RowKit

def cwB (a : Au) (n : Int) : Int := if vAut a && inR n 0 8 then bwd a n.toNat 0 else -1
/-- The next row: states before s are done, state s has had its first v values. -/
def nx (a : Au) (k s v i : Nat) : Int := if i < s then bwd a (k + 1) i else if i = s then backS a (bwd a k) s v else 0
theorem nx_start (a : Au) (k i : Nat) : nx a k 0 0 i = 0 := by
  unfold nx; rw [if_neg (by omega)]; split <;> rfl
theorem nx_end (a : Au) (k s i : Nat) : nx a k s 6 i = nx a k (s + 1) 0 i := by
  unfold nx
  by_cases h : i < s
  · rw [if_pos h, if_pos (by omega)]
  · rw [if_neg h]
    by_cases h2 : i = s
    · subst h2; rw [if_pos rfl, if_pos (by omega)]; rfl
    · rw [if_neg h2, if_neg (by omega)]; split <;> rfl
theorem nx_set (a : Au) (k s v i : Nat) : (if i = s then vI (backS a (bwd a k) s (v + 1)) else vI (nx a k s v i)) = vI (nx a k s (v + 1) i) := by
  unfold nx
  by_cases h2 : i = s
  · subst h2; rw [if_pos rfl, if_neg (by omega), if_pos rfl]
  · rw [if_neg h2]
    by_cases h : i < s
    · rw [if_pos h, if_pos h]
    · rw [if_neg h, if_neg h, if_neg h2, if_neg h2]
theorem backS_bounds (a : Au) (k s : Nat) {v : Nat} (hv : v ≤ 6) : 0 ≤ backS a (bwd a k) s v ∧ backS a (bwd a k) s v ≤ 6 * 6 ^ k := by
  have h54 : (0 : Int) ≤ 6 ^ k := Int.le_trans (bwd_bounds a k 0).1 (bwd_bounds a k 0).2
  have h := sumN_bounds (n := v) (f := fun x => if 0 ≤ at0 (rw0 a.next s) x then bwd a k (at0 (rw0 a.next s) x).toNat else 0) (B := 6 ^ k) (fun i _ => by
    by_cases h0 : 0 ≤ at0 (rw0 a.next s) i
    · simp only [if_pos h0]; exact bwd_bounds a k _
    · simp only [if_neg h0]; omega)
  have hv' : (v : Int) ≤ 6 := by omega
  have := Int.mul_le_mul_of_nonneg_right hv' h54
  rw [backS]
  omega
theorem six_pow {k : Nat} (hk : k ≤ 8) : (6 : Int) ^ k ≤ 1679616 := by
  rcases (by omega : k = 0 ∨ k = 1 ∨ k = 2 ∨ k = 3 ∨ k = 4 ∨ k = 5 ∨ k = 6 ∨ k = 7 ∨ k = 8) with rfl | rfl | rfl | rfl | rfl | rfl | rfl | rfl | rfl <;> decide
def fi (a : Au) (s i : Nat) : Int := if i < s then bwd a 0 i else 0
theorem row_congr {w : World} {b n : Nat} {f g : Nat → Int} (h : w.rowIs b 3 n (fun i => vI (f i))) (hfg : ∀ i, i < n → f i = g i) : w.rowIs b 3 n (fun i => vI (g i)) :=
  h.congr fun i hi => by rw [hfg i hi]
set_option maxRecDepth 100000 in
set_option maxHeartbeats 4000000 in
theorem CountWordsS_any (vn vf : Value) (a : Au) (n : Int) (w : World) (hN : SRows w vn a.next) (hF : SInts w vf a.final) (hn : I64 n) :
    Calls Try.prog 7 #[.agg #[vn, vf], .int .i64 n] w (Ret (.int .i64 (cwB a n)) w) := by
  have hN0 := hide hN
  have hF0 := hide hF
  obtain ⟨A, c, rfl, -, hln⟩ := hN.form
  obtain ⟨A', c', rfl, -, hlf⟩ := hF.form
  clear hN hF
  have hx0 := (Ext.refl w).alloc (.cells #[.slice A a.next.length c, .slice A' a.final.length c'] 26)
  by_cases hv : vAut a = true
  · by_cases hr : inR n 0 8 = true
    · have hn0 : 0 ≤ n ∧ n ≤ 8 := by simpa [inR] using hr
      obtain ⟨m, rfl⟩ : ∃ m : Nat, n = m := ⟨n.toNat, by omega⟩
      have hm8 : m ≤ 8 := by omega
      have HV := hide hv
      have HRES := hide (show cwB a m = bwd a m 0 by rw [cwB, hv, hr]; rfl)
      obtain ⟨hl1, hl8⟩ := vAut_len hv
      clear hn0 hn
      go_enter Try.func7, Try.ntmps7
      go_wp2_with fail
      refine (validAutomaton_any _ _ a _ (hN0.out.ext hx0) (hF0.out.ext hx0)).mono ?_
      rintro e w1 ⟨rfl, hx1⟩
      rw [hv]
      have f0 : w1.cell? ⟨w.heap.size, 0, none⟩ = some (.slice A a.next.length c) := (hx1.cells _ _ (by simp)).trans (by go_simp)
      have f1 : w1.cell? ⟨w.heap.size, 1, none⟩ = some (.slice A' a.final.length c') := (hx1.cells _ _ (by simp)).trans (by go_simp)
      have hbw : w.heap.size < w1.heap.size := Nat.lt_of_lt_of_le (by simp) hx1.size
      have Hx01 := hide (hx0.trans hx1)
      clear hx0 hx1 hv
      have HR := hide hr; clear hr
      go_wp2_with (first | (go_at_call 23; refine (inRange_any _ _ _ _).mono ?_; rintro e w' ⟨rfl, rfl⟩; rw [HR.out]) | (at_make; go_must (refine wpList_make_gen _ rfl _ _ 24 rfl 3 (.int .i64 0) 1 8 Try.underlying24 Try.infoI .i64 .i64 a.next.length rfl rfl (by omega) (by omega) (fun _ => .int .i64 0) (fun i _ => by simp [Value.cells, Nat.mod_one]) ?_); intro w2 hrow hsz hx2; rw [Nat.mul_one] at hrow; have HROW := hide hrow; have HX2 := hide hx2; clear hrow hsz hx2))
      go_loopw [6] (fun i wr => ∃ s : Nat, s ≤ a.next.length ∧ i = .int .i64 s ∧ Ext w1 wr ∧ wr.rowIs w1.heap.size 3 a.next.length (fun i => vI (fi a s i))) (fun i _ => a.next.length - (intOf i).toNat)
      case atStart => exact ⟨0, Nat.zero_le _, rfl, HX2.out, HROW.out⟩
      case round =>
        obtain ⟨s, hs, rfl, hxr, hrow⟩ := hrel
        have HR2 := hide hrow
        have e0 : wr.cell? ⟨w.heap.size, 0, none⟩ = some (.slice A a.next.length c) := (hxr.cells _ _ hbw).trans f0
        have e1 : wr.cell? ⟨w.heap.size, 1, none⟩ = some (.slice A' a.final.length c') := (hxr.cells _ _ hbw).trans f1
        by_cases hlt : s < a.next.length
        · clear hrow
          go_wp2_with fail
          refine (isFinal_any _ _ a _ _ (hN0.out.ext (Hx01.out.trans hxr)) (hF0.out.ext (Hx01.out.trans hxr))).mono ?_
          rintro e w3 ⟨rfl, hx3⟩
          have hrow3 := hx3.row HR2.out
          have c0 := hrow3.cell (i := s) hlt
          have z0 := hrow3.frozen s
          have HR3 := hide hrow3; clear hrow3
          by_cases hm : (s : Int) ∈ a.final
          · rw [decide_eq_true hm]
            have HM := hide hm; clear hm
            go_wp2
            go_roundw
            case rel =>
              refine ⟨s + 1, by omega, by go_num, (hxr.trans hx3).set (Nat.le_refl _) _, ?_⟩
              refine (HR3.out.set s _).congr fun i hi => ?_
              show (if i = s then _ else _) = _
              unfold fi
              by_cases h : i = s
              · subst h; rw [if_pos rfl, if_pos (by omega), bwd, if_pos HM.out]; rfl
              · rw [if_neg h]; by_cases h2 : i < s
                · rw [if_pos h2, if_pos (by omega)]
                · rw [if_neg h2, if_neg (by omega)]
            case measure => simp [intOf]; omega
          · rw [decide_eq_false hm]
            have HM := hide hm; clear hm
            go_wp2
            go_roundw
            case rel =>
              refine ⟨s + 1, by omega, by go_num, hxr.trans hx3, row_congr HR3.out fun i hi => ?_⟩
              unfold fi
              by_cases h : i = s
              · subst h; rw [if_neg (by omega), if_pos (by omega), bwd, if_neg HM.out]
              · by_cases h2 : i < s
                · rw [if_pos h2, if_pos (by omega)]
                · rw [if_neg h2, if_neg (by omega)]
            case measure => simp [intOf]; omega
        · have hsl : s = a.next.length := by omega
          subst hsl
          have hb0 : w1.heap.size < wr.heap.size := hrow.lt
          have HR3 := hide (row_congr (g := bwd a 0) hrow fun i hi => by rw [fi, if_pos hi])
          obtain ⟨W0, rfl⟩ : ∃ W0, W0 = wr := ⟨wr, rfl⟩
          clear hrow
          go_wp2_with fail
          have hWx := hxr
          clear hxr e0 e1
          go_loopw [5, 7] (fun many i wr => ∃ (k b : Nat), k ≤ m ∧ i = .int .i64 k ∧ many = .slice (some ⟨b, 0, none⟩) a.next.length a.next.length ∧ Ext w1 wr ∧ wr.rowIs b 3 a.next.length (fun i => vI (bwd a k i))) (fun _ i _ => m - (intOf i).toNat)
          case atStart => exact ⟨0, _, Nat.zero_le _, rfl, rfl, hWx, HR3.out⟩
          case round =>
            obtain ⟨k, b, hk, rfl, rfl, hxr, hrow⟩ := hrel
            obtain ⟨W2, rfl⟩ : ∃ W2, W2 = wr := ⟨wr, rfl⟩
            have hbb := hrow.lt
            have HRB := hide hrow
            by_cases hkm : k < m
            · clear hrow
              go_wp2_with (at_make; go_must (refine wpList_make_gen _ rfl _ _ 24 rfl 3 (.int .i64 0) 1 8 Try.underlying24 Try.infoI .i64 .i64 a.next.length rfl rfl (by omega) (by omega) (fun _ => .int .i64 0) (fun i _ => by simp [Value.cells, Nat.mod_one]) ?_); intro w5 hrow5 hsz5 hx5; rw [Nat.mul_one] at hrow5; have HROW5 := hide hrow5; have HX5 := hide hx5; clear hrow5 hsz5 hx5)
              go_loopw [9] (fun i wr => ∃ s : Nat, s ≤ a.next.length ∧ i = .int .i64 s ∧ Ext W2 wr ∧ wr.rowIs W2.heap.size 3 a.next.length (fun i => vI (nx a k s 0 i))) (fun i _ => a.next.length - (intOf i).toNat)
              case atStart => exact ⟨0, Nat.zero_le _, rfl, HX5.out, HROW5.out.congr fun i hi => by rw [nx_start]; rfl⟩
              case round =>
                obtain ⟨s, hs, rfl, hxs, hrows⟩ := hrel
                have HRS := hide hrows
                have hBs := hrows.lt
                clear hrows
                by_cases hsl : s < a.next.length
                · go_wp2_with fail
                  go_loopw [10] (fun i wr => ∃ v : Nat, v ≤ 6 ∧ i = .int .i64 v ∧ Ext W2 wr ∧ wr.rowIs W2.heap.size 3 a.next.length (fun i => vI (nx a k s v i))) (fun i _ => 6 - (intOf i).toNat)
                  case atStart => exact ⟨0, Nat.zero_le _, rfl, hxs, HRS.out⟩
                  case round =>
                    obtain ⟨v, hv6, rfl, hxv, hrowv⟩ := hrel
                    have HRV := hide hrowv
                    have hBv := hrowv.lt
                    by_cases hvl : v < 6
                    · have hvl' : decide ((v : Int) ≤ 5) = true := by simp; omega
                      have hxw := hxr.trans hxv
                      have e0 : wr.cell? ⟨w.heap.size, 0, none⟩ = some (.slice A a.next.length c) := (hxw.cells _ _ hbw).trans f0
                      have hbw' := Nat.lt_of_lt_of_le hbw hxw.size
                      obtain ⟨rb, roff, A4, c4, rfl, hbl4, g1, hrow4⟩ := (hN0.out.ext (Hx01.out.trans hxw)).at_ hsl
                      obtain ⟨r1, r2⟩ := vAut_row HV.out hsl
                      obtain ⟨b6, off6, rfl, hbl6, g2⟩ := hrow4.at_ (k := v) (by omega)
                      rw [r1] at g1
                      obtain ⟨t1, t2⟩ := allR_at r2 (k := v) (by omega)
                      clear hrow4 r1 r2
                      by_cases h0 : 0 ≤ at0 (rw0 a.next s) v
                      · have hstep := hide (show backS a (bwd a k) s (v + 1) = backS a (bwd a k) s v + bwd a k (at0 (rw0 a.next s) v).toNat by rw [backS, sumN, if_pos h0]; rfl)
                        obtain ⟨q1, q2⟩ := backS_bounds a k s hv6
                        obtain ⟨q3, q4⟩ := bwd_bounds a k (at0 (rw0 a.next s) v).toNat
                        have q5 := six_pow (k := k) (by omega)
                        have n0 : wr.cell? ⟨W2.heap.size, s, none⟩ = some (.int .i64 (backS a (bwd a k) s v)) := by rw [hrowv.cell hsl, nx, if_neg (by omega), if_pos rfl]; rfl
                        have m0 : wr.cell? ⟨b, (at0 (rw0 a.next s) v).toNat, none⟩ = some (.int .i64 (bwd a k (at0 (rw0 a.next s) v).toNat)) := (hxv.row HRB.out).cell (by omega)
                        have t3 : at0 (rw0 a.next s) v < (a.next.length : Int) := by omega
                        have hbb' := Nat.lt_of_lt_of_le hbb hxv.size
                        clear hrowv
                        go_wp2
                        refine wp_region_ext_tail 19 (by kernel_rfl) (by kernel_rfl) ?_
                        simp only [List.take_succ_cons, List.take_zero, List.drop_succ_cons, List.drop_zero]
                        have hvI : (v : Int) < 6 := by omega
                        have hwr := IntWalk.i64_in (backS a (bwd a k) s v + bwd a k (at0 (rw0 a.next s) v).toNat) (by omega)
                        iterate 19 (apply quiet_val; (focus rfl); (focus (intro w' hw'; have hk' := hw'.cells; go_simp; all_goals exact rfl)); simp only [Act.put, List.setIfInBounds_toArray, List.set_cons_succ, List.set_cons_zero])
                        clear hwr hvI
                        refine wpQuiet_nil ?_
                        intro w6 hx6
                        have r6 := hx6.row HRV.out
                        have u6 := r6.cell (i := s) hsl
                        have z6 := r6.frozen s
                        have R6 := hide r6; clear r6
                        go_wp2
                        go_roundw
                        case rel =>
                          refine ⟨v + 1, by omega, by go_num, (hxv.trans hx6).set (Nat.le_refl _) _, (R6.out.set s _).congr fun i hi => ?_⟩
                          rw [← nx_set, hstep.out]; rfl
                        case measure => simp [intOf]; omega
                      · have hstep := hide (show backS a (bwd a k) s (v + 1) = backS a (bwd a k) s v by rw [backS, sumN, if_neg h0]; show _ + (0 : Int) = _; rw [Int.add_zero]; rfl)
                        clear hrowv
                        go_wp2
                        go_roundw
                        case rel =>
                          refine ⟨v + 1, by omega, by go_num, hxv, row_congr HRV.out fun i hi => ?_⟩
                          unfold nx
                          rw [hstep.out]
                        case measure => simp [intOf]; omega
                    · have hv6' : v = 6 := by omega
                      subst hv6'
                      clear hrowv
                      go_wp2
                      go_roundw
                      case rel => exact ⟨s + 1, by omega, by go_num, hxv, row_congr HRV.out fun i hi => nx_end a k s i⟩
                      case measure => simp [intOf]; omega
                · have hsl' : s = a.next.length := by omega
                  subst hsl'
                  go_wp2
                  go_roundw
                  case rel => exact ⟨k + 1, _, by omega, by go_num, rfl, hxr.trans hxs, row_congr HRS.out fun i hi => by rw [nx, if_pos hi]⟩
                  case measure => simp [intOf]; omega
            · have hkm' : k = m := by omega
              subst hkm'
              have z0 := hrow.cell (i := 0) (by omega)
              clear hrow
              go_wp2
              go_ret
              exact Ret.mk (ret_i HRES.out.symm) (Hx01.out.trans hxr)
    · have hr' : inR n 0 8 = false := Bool.eq_false_iff.2 hr
      have HRES := hide (show cwB a n = -1 by rw [cwB, hr']; simp)
      clear hr
      go_enter Try.func7, Try.ntmps7
      go_wp2_with fail
      refine (validAutomaton_any _ _ a _ (hN0.out.ext hx0) (hF0.out.ext hx0)).mono ?_
      rintro e w1 ⟨rfl, hx1⟩
      rw [hv]
      go_wp2_with (go_at_call 23; refine (inRange_any _ _ _ _).mono ?_; rintro e w' ⟨rfl, rfl⟩; rw [hr'])
      go_ret
      exact Ret.mk (ret_i HRES.out.symm) (hx0.trans hx1)
  · have hv' : vAut a = false := Bool.eq_false_iff.2 hv
    have HRES := hide (show cwB a n = -1 by rw [cwB, hv']; rfl)
    clear hv
    go_enter Try.func7, Try.ntmps7
    go_wp2_with fail
    refine (validAutomaton_any _ _ a _ (hN0.out.ext hx0) (hF0.out.ext hx0)).mono ?_
    rintro e w1 ⟨rfl, hx1⟩
    rw [hv']
    go_wp2
    go_ret
    exact Ret.mk (ret_i HRES.out.symm) (hx0.trans hx1)
end Go.Proofs.Ytachgijdopfghaa
