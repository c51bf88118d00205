/- Whether literals are a clause: both sides. -/
import Derived.Test.YtgpbmggfpbebmaaGreatClsV
namespace Go.Proofs.YtgpbmggfpbebmaaGreat
open Go.RowKit
attribute [local go_sem] evalOf

set_option maxRecDepth 100000 in
set_option maxHeartbeats 8000000 in
theorem validClause_any (v : Value) (ls : List Lt) (n : Int) (w : World) (hS : SLt w v ls) (hn0 : 0 ≤ n) (hn1 : n ≤ 140737488355328) :
    Calls Tryz.prog 54 #[v, .int .i64 n] w (Ret (.bool (okCl ls n)) w) := by
  have hS0 := hide hS
  obtain ⟨A, cp, rfl, hl, hlen⟩ := hS.form
  clear hS
  go_enter Tryz.func54, Tryz.ntmps54
  go_wp2
  go_loopw [5] (fun i wr => ∃ k : Nat, k ≤ ls.length ∧ i = .int .i64 k ∧ Ext w wr ∧ ∀ j, j < k → badAt ls n j = false) (fun i _ => ls.length - (intOf i).toNat)
  case atStart => exact ⟨0, Nat.zero_le _, rfl, Ext.refl w, fun j hj => by omega⟩
  case round =>
    obtain ⟨k, hk, rfl, hx, hno⟩ := hrel
    have HNO := hide hno
    have HX := hide hx
    clear hno hx
    by_cases hlt : k < ls.length
    · have hkI : (k : Int) < ls.length := by omega
      obtain ⟨b, off, rfl, hbl, f1, f2, f3⟩ := (hS0.out.ext HX.out).at_ hlt
      have hwn := IntWalk.i64_in (n - 1) (by omega)
      have HLT := hide hlt
      cases hq1 : inR (ltX ls k) 0 (n - 1) with
      | false =>
        have HB := hide (show badAt ls n k = true by rw [badAt, okLt, show (lt0 ls k).x = ltX ls k from rfl, hq1]; rfl)
        have HQ1 := hide hq1
        clear hq1 hlt
        go_wp2
        refine wp_region_ext (by kernel_rfl) (by kernel_rfl) ?_
        iterate 7 (apply quiet_val; (focus rfl); (focus (intro w' hw'; have hk' := hw'.cells; go_simp; all_goals exact rfl)); simp only [Act.put, List.setIfInBounds_toArray, List.set_cons_succ, List.set_cons_zero])
        apply quiet_call; (focus rfl); (focus (intro w' hw'; go_simp; all_goals (first | exact rfl | (apply And.intro <;> exact rfl))))
        · exact fun w' hw' => (inRange_any _ _ _ w').mono fun e w2 h => ⟨by rw [h.1, HQ1.out], h.2 ▸ hw'⟩
        (simp only [Act.put, List.setIfInBounds_toArray, List.set_cons_succ, List.set_cons_zero])
        iterate 2 (apply quiet_val; (focus rfl); (focus (intro w' hw'; have hk' := hw'.cells; go_simp; all_goals exact rfl)); simp only [Act.put, List.setIfInBounds_toArray, List.set_cons_succ, List.set_cons_zero])
        iterate 7 go_big_quiet_skip
        iterate 2 (apply quiet_val; (focus rfl); (focus (intro w' hw'; have hk' := hw'.cells; go_simp; all_goals exact rfl)); simp only [Act.put, List.setIfInBounds_toArray, List.set_cons_succ, List.set_cons_zero])
        iterate 3 go_big_quiet_skip
        iterate 11 go_big_quiet_skip
        iterate 1 go_big_quiet_skip
        (apply quiet_val; (focus rfl); (focus (intro w' hw'; have hk' := hw'.cells; go_simp; all_goals exact rfl)); simp only [Act.put, List.setIfInBounds_toArray, List.set_cons_succ, List.set_cons_zero])
        refine wpQuiet_nil ?_
        intro w2 hx2
        go_wp2
        go_ret
        exact Ret.mk (ret_b (by rw [okCl_bad HLT.out HB.out])) (HX.out.trans hx2)
      | true =>
        have HQ1 := hide hq1
        cases hq2 : inR (ltV ls k) 0 5 with
        | false =>
          have HB := hide (show badAt ls n k = true by rw [badAt, okLt, show (lt0 ls k).x = ltX ls k from rfl, show (lt0 ls k).v = ltV ls k from rfl, hq1, hq2]; rfl)
          have HQ2 := hide hq2
          clear hq1 hq2 hlt
          go_wp2
          refine wp_region_ext (by kernel_rfl) (by kernel_rfl) ?_
          iterate 7 (apply quiet_val; (focus rfl); (focus (intro w' hw'; have hk' := hw'.cells; go_simp; all_goals exact rfl)); simp only [Act.put, List.setIfInBounds_toArray, List.set_cons_succ, List.set_cons_zero])
          apply quiet_call; (focus rfl); (focus (intro w' hw'; go_simp; all_goals (first | exact rfl | (apply And.intro <;> exact rfl))))
          · exact fun w' hw' => (inRange_any _ _ _ w').mono fun e w2 h => ⟨by rw [h.1, HQ1.out], h.2 ▸ hw'⟩
          (simp only [Act.put, List.setIfInBounds_toArray, List.set_cons_succ, List.set_cons_zero])
          iterate 2 (apply quiet_val; (focus rfl); (focus (intro w' hw'; have hk' := hw'.cells; go_simp; all_goals exact rfl)); simp only [Act.put, List.setIfInBounds_toArray, List.set_cons_succ, List.set_cons_zero])
          iterate 5 (go_big_quiet_want; apply quietK_val; (focus (intro w' hw'; have hk' := hw'.cells; go_simp; all_goals exact rfl)); simp only [Act.put, List.setIfInBounds_toArray, List.set_cons_succ, List.set_cons_zero]; go_big_quiet_on)
          go_big_quiet_want; apply quietK_call; (focus (intro w' hw'; go_simp; all_goals (first | exact rfl | (apply And.intro <;> exact rfl))))
          · exact fun w' hw' => (inRange_any _ _ _ w').mono fun e w2 h => ⟨by rw [h.1, HQ2.out], h.2 ▸ hw'⟩
          (simp only [Act.put, List.setIfInBounds_toArray, List.set_cons_succ, List.set_cons_zero]; go_big_quiet_on)
          (go_big_quiet_want; apply quietK_val; (focus (intro w' hw'; have hk' := hw'.cells; go_simp; all_goals exact rfl)); simp only [Act.put, List.setIfInBounds_toArray, List.set_cons_succ, List.set_cons_zero]; go_big_quiet_on)
          iterate 2 (apply quiet_val; (focus rfl); (focus (intro w' hw'; have hk' := hw'.cells; go_simp; all_goals exact rfl)); simp only [Act.put, List.setIfInBounds_toArray, List.set_cons_succ, List.set_cons_zero])
          iterate 3 go_big_quiet_skip
          iterate 11 go_big_quiet_skip
          iterate 1 go_big_quiet_skip
          (apply quiet_val; (focus rfl); (focus (intro w' hw'; have hk' := hw'.cells; go_simp; all_goals exact rfl)); simp only [Act.put, List.setIfInBounds_toArray, List.set_cons_succ, List.set_cons_zero])
          refine wpQuiet_nil ?_
          intro w2 hx2
          go_wp2
          go_ret
          exact Ret.mk (ret_b (by rw [okCl_bad HLT.out HB.out])) (HX.out.trans hx2)
        | true =>
          have HQ2 := hide hq2
          have HOK := hide (show okLt (lt0 ls k) n = true by rw [okLt, show (lt0 ls k).x = ltX ls k from rfl, show (lt0 ls k).v = ltV ls k from rfl, hq1, hq2]; rfl)
          clear hq1 hq2
          by_cases hk0 : 0 < k
          · have hp0 : (0 : Int) < (k : Int) := by omega
            have hp1 : 0 < k := hk0
            obtain ⟨b', off', he, hbl', g1, g2, g3⟩ := (hS0.out.ext HX.out).at_ (k := k - 1) (by omega)
            injection he with he
            injection he with he1 he2 he3
            subst he1 he2
            have hi0 : (1 : Int) ≤ (k : Int) := by omega
            have hi1 : (0 : Int) ≤ (k : Int) - 1 := by omega
            have hi2 : (k : Int) - 1 < ls.length := by omega
            have hi3 : ((k : Int) - 1).toNat = k - 1 := by omega
            have hwr := IntWalk.i64_in ((k : Int) - 1) (by omega)
            cases hq3 : lsB (lt0 ls (k - 1)) (lt0 ls k) with
            | false =>
              have HQ3 := hide hq3
              have HB := hide (show badAt ls n k = true by rw [badAt, HOK.out, hq3, decide_eq_true hk0]; rfl)
              clear hq3 hlt hk0
              go_wp2
              refine wp_region_ext (by kernel_rfl) (by kernel_rfl) ?_
              iterate 7 (apply quiet_val; (focus rfl); (focus (intro w' hw'; have hk' := hw'.cells; go_simp; all_goals exact rfl)); simp only [Act.put, List.setIfInBounds_toArray, List.set_cons_succ, List.set_cons_zero])
              apply quiet_call; (focus rfl); (focus (intro w' hw'; go_simp; all_goals (first | exact rfl | (apply And.intro <;> exact rfl))))
              · exact fun w' hw' => (inRange_any _ _ _ w').mono fun e w2 h => ⟨by rw [h.1, HQ1.out], h.2 ▸ hw'⟩
              (simp only [Act.put, List.setIfInBounds_toArray, List.set_cons_succ, List.set_cons_zero])
              iterate 2 (apply quiet_val; (focus rfl); (focus (intro w' hw'; have hk' := hw'.cells; go_simp; all_goals exact rfl)); simp only [Act.put, List.setIfInBounds_toArray, List.set_cons_succ, List.set_cons_zero])
              iterate 5 (go_big_quiet_want; apply quietK_val; (focus (intro w' hw'; have hk' := hw'.cells; go_simp; all_goals exact rfl)); simp only [Act.put, List.setIfInBounds_toArray, List.set_cons_succ, List.set_cons_zero]; go_big_quiet_on)
              go_big_quiet_want; apply quietK_call; (focus (intro w' hw'; go_simp; all_goals (first | exact rfl | (apply And.intro <;> exact rfl))))
              · exact fun w' hw' => (inRange_any _ _ _ w').mono fun e w2 h => ⟨by rw [h.1, HQ2.out], h.2 ▸ hw'⟩
              (simp only [Act.put, List.setIfInBounds_toArray, List.set_cons_succ, List.set_cons_zero]; go_big_quiet_on)
              (go_big_quiet_want; apply quietK_val; (focus (intro w' hw'; have hk' := hw'.cells; go_simp; all_goals exact rfl)); simp only [Act.put, List.setIfInBounds_toArray, List.set_cons_succ, List.set_cons_zero]; go_big_quiet_on)
              iterate 2 (apply quiet_val; (focus rfl); (focus (intro w' hw'; have hk' := hw'.cells; go_simp; all_goals exact rfl)); simp only [Act.put, List.setIfInBounds_toArray, List.set_cons_succ, List.set_cons_zero])
              (go_big_quiet_want; apply quietK_val; (focus (intro w' hw'; have hk' := hw'.cells; go_simp; all_goals exact rfl)); simp only [Act.put, List.setIfInBounds_toArray, List.set_cons_succ, List.set_cons_zero]; go_big_quiet_on)
              (go_big_quiet_want; apply quietK_val (v := .bool true); (focus (intro w' hw'; have hk' := hw'.cells; go_simp; all_goals (first | exact rfl | exact hp0 | exact hp1))); (simp only [Act.put, List.setIfInBounds_toArray, List.set_cons_succ, List.set_cons_zero]); go_big_quiet_on)
              (go_big_quiet_want; apply quietK_val; (focus (intro w' hw'; have hk' := hw'.cells; go_simp; all_goals exact rfl)); simp only [Act.put, List.setIfInBounds_toArray, List.set_cons_succ, List.set_cons_zero]; go_big_quiet_on)
              iterate 9 (go_big_quiet_want; apply quietK_val; (focus (intro w' hw'; have hk' := hw'.cells; go_simp; all_goals exact rfl)); simp only [Act.put, List.setIfInBounds_toArray, List.set_cons_succ, List.set_cons_zero]; go_big_quiet_on)
              go_big_quiet_want; apply quietK_call; (focus (intro w' hw'; go_simp; all_goals (first | exact rfl | (apply And.intro <;> exact rfl))))
              · exact fun w' hw' => Ret.quiet ((literalLess_any (lt0 ls (k - 1)) (lt0 ls k) w').mono fun e w2 h => by rw [HQ3.out] at h; exact h) hw'
              (simp only [Act.put, List.setIfInBounds_toArray, List.set_cons_succ, List.set_cons_zero]; go_big_quiet_on)
              (go_big_quiet_want; apply quietK_val; (focus (intro w' hw'; have hk' := hw'.cells; go_simp; all_goals exact rfl)); simp only [Act.put, List.setIfInBounds_toArray, List.set_cons_succ, List.set_cons_zero]; go_big_quiet_on)
              (go_big_quiet_want; apply quietK_val; (focus (intro w' hw'; have hk' := hw'.cells; go_simp; all_goals exact rfl)); simp only [Act.put, List.setIfInBounds_toArray, List.set_cons_succ, List.set_cons_zero]; go_big_quiet_on)
              (apply quiet_val; (focus rfl); (focus (intro w' hw'; have hk' := hw'.cells; go_simp; all_goals exact rfl)); simp only [Act.put, List.setIfInBounds_toArray, List.set_cons_succ, List.set_cons_zero])
              refine wpQuiet_nil ?_
              intro w2 hx2
              go_wp2
              go_ret
              exact Ret.mk (ret_b (by rw [okCl_bad HLT.out HB.out])) (HX.out.trans hx2)
            | true =>
              have HQ3 := hide hq3
              have HB := hide (show badAt ls n k = false by rw [badAt, HOK.out, hq3]; simp)
              clear hq3 hlt hk0
              go_wp2
              refine wp_region_ext (by kernel_rfl) (by kernel_rfl) ?_
              iterate 7 (apply quiet_val; (focus rfl); (focus (intro w' hw'; have hk' := hw'.cells; go_simp; all_goals exact rfl)); simp only [Act.put, List.setIfInBounds_toArray, List.set_cons_succ, List.set_cons_zero])
              apply quiet_call; (focus rfl); (focus (intro w' hw'; go_simp; all_goals (first | exact rfl | (apply And.intro <;> exact rfl))))
              · exact fun w' hw' => (inRange_any _ _ _ w').mono fun e w2 h => ⟨by rw [h.1, HQ1.out], h.2 ▸ hw'⟩
              (simp only [Act.put, List.setIfInBounds_toArray, List.set_cons_succ, List.set_cons_zero])
              iterate 2 (apply quiet_val; (focus rfl); (focus (intro w' hw'; have hk' := hw'.cells; go_simp; all_goals exact rfl)); simp only [Act.put, List.setIfInBounds_toArray, List.set_cons_succ, List.set_cons_zero])
              iterate 5 (go_big_quiet_want; apply quietK_val; (focus (intro w' hw'; have hk' := hw'.cells; go_simp; all_goals exact rfl)); simp only [Act.put, List.setIfInBounds_toArray, List.set_cons_succ, List.set_cons_zero]; go_big_quiet_on)
              go_big_quiet_want; apply quietK_call; (focus (intro w' hw'; go_simp; all_goals (first | exact rfl | (apply And.intro <;> exact rfl))))
              · exact fun w' hw' => (inRange_any _ _ _ w').mono fun e w2 h => ⟨by rw [h.1, HQ2.out], h.2 ▸ hw'⟩
              (simp only [Act.put, List.setIfInBounds_toArray, List.set_cons_succ, List.set_cons_zero]; go_big_quiet_on)
              (go_big_quiet_want; apply quietK_val; (focus (intro w' hw'; have hk' := hw'.cells; go_simp; all_goals exact rfl)); simp only [Act.put, List.setIfInBounds_toArray, List.set_cons_succ, List.set_cons_zero]; go_big_quiet_on)
              iterate 2 (apply quiet_val; (focus rfl); (focus (intro w' hw'; have hk' := hw'.cells; go_simp; all_goals exact rfl)); simp only [Act.put, List.setIfInBounds_toArray, List.set_cons_succ, List.set_cons_zero])
              (go_big_quiet_want; apply quietK_val; (focus (intro w' hw'; have hk' := hw'.cells; go_simp; all_goals exact rfl)); simp only [Act.put, List.setIfInBounds_toArray, List.set_cons_succ, List.set_cons_zero]; go_big_quiet_on)
              (go_big_quiet_want; apply quietK_val (v := .bool true); (focus (intro w' hw'; have hk' := hw'.cells; go_simp; all_goals (first | exact rfl | exact hp0 | exact hp1))); (simp only [Act.put, List.setIfInBounds_toArray, List.set_cons_succ, List.set_cons_zero]); go_big_quiet_on)
              (go_big_quiet_want; apply quietK_val; (focus (intro w' hw'; have hk' := hw'.cells; go_simp; all_goals exact rfl)); simp only [Act.put, List.setIfInBounds_toArray, List.set_cons_succ, List.set_cons_zero]; go_big_quiet_on)
              iterate 9 (go_big_quiet_want; apply quietK_val; (focus (intro w' hw'; have hk' := hw'.cells; go_simp; all_goals exact rfl)); simp only [Act.put, List.setIfInBounds_toArray, List.set_cons_succ, List.set_cons_zero]; go_big_quiet_on)
              go_big_quiet_want; apply quietK_call; (focus (intro w' hw'; go_simp; all_goals (first | exact rfl | (apply And.intro <;> exact rfl))))
              · exact fun w' hw' => Ret.quiet ((literalLess_any (lt0 ls (k - 1)) (lt0 ls k) w').mono fun e w2 h => by rw [HQ3.out] at h; exact h) hw'
              (simp only [Act.put, List.setIfInBounds_toArray, List.set_cons_succ, List.set_cons_zero]; go_big_quiet_on)
              (go_big_quiet_want; apply quietK_val; (focus (intro w' hw'; have hk' := hw'.cells; go_simp; all_goals exact rfl)); simp only [Act.put, List.setIfInBounds_toArray, List.set_cons_succ, List.set_cons_zero]; go_big_quiet_on)
              (go_big_quiet_want; apply quietK_val; (focus (intro w' hw'; have hk' := hw'.cells; go_simp; all_goals exact rfl)); simp only [Act.put, List.setIfInBounds_toArray, List.set_cons_succ, List.set_cons_zero]; go_big_quiet_on)
              (apply quiet_val; (focus rfl); (focus (intro w' hw'; have hk' := hw'.cells; go_simp; all_goals exact rfl)); simp only [Act.put, List.setIfInBounds_toArray, List.set_cons_succ, List.set_cons_zero])
              clear hwr hi0 hi1 hi2 hi3 hwn hp0 hp1
              refine wpQuiet_nil ?_
              intro w2 hx2
              go_wp2
              go_roundw
              case rel => exact ⟨k + 1, by have := HLT.out; omega, by go_num, HX.out.trans hx2, upto_succ HNO.out HB.out⟩
              case measure => simp [intOf]; have := HLT.out; omega
          · have HP := hide hk0
            have HB := hide (show badAt ls n k = false by rw [badAt, HOK.out, decide_eq_false hk0]; rfl)
            clear hlt hk0
            go_wp2
            refine wp_region_ext (by kernel_rfl) (by kernel_rfl) ?_
            iterate 7 (apply quiet_val; (focus rfl); (focus (intro w' hw'; have hk' := hw'.cells; go_simp; all_goals exact rfl)); simp only [Act.put, List.setIfInBounds_toArray, List.set_cons_succ, List.set_cons_zero])
            apply quiet_call; (focus rfl); (focus (intro w' hw'; go_simp; all_goals (first | exact rfl | (apply And.intro <;> exact rfl))))
            · exact fun w' hw' => (inRange_any _ _ _ w').mono fun e w2 h => ⟨by rw [h.1, HQ1.out], h.2 ▸ hw'⟩
            (simp only [Act.put, List.setIfInBounds_toArray, List.set_cons_succ, List.set_cons_zero])
            iterate 2 (apply quiet_val; (focus rfl); (focus (intro w' hw'; have hk' := hw'.cells; go_simp; all_goals exact rfl)); simp only [Act.put, List.setIfInBounds_toArray, List.set_cons_succ, List.set_cons_zero])
            iterate 5 (go_big_quiet_want; apply quietK_val; (focus (intro w' hw'; have hk' := hw'.cells; go_simp; all_goals exact rfl)); simp only [Act.put, List.setIfInBounds_toArray, List.set_cons_succ, List.set_cons_zero]; go_big_quiet_on)
            go_big_quiet_want; apply quietK_call; (focus (intro w' hw'; go_simp; all_goals (first | exact rfl | (apply And.intro <;> exact rfl))))
            · exact fun w' hw' => (inRange_any _ _ _ w').mono fun e w2 h => ⟨by rw [h.1, HQ2.out], h.2 ▸ hw'⟩
            (simp only [Act.put, List.setIfInBounds_toArray, List.set_cons_succ, List.set_cons_zero]; go_big_quiet_on)
            (go_big_quiet_want; apply quietK_val; (focus (intro w' hw'; have hk' := hw'.cells; go_simp; all_goals exact rfl)); simp only [Act.put, List.setIfInBounds_toArray, List.set_cons_succ, List.set_cons_zero]; go_big_quiet_on)
            iterate 2 (apply quiet_val; (focus rfl); (focus (intro w' hw'; have hk' := hw'.cells; go_simp; all_goals exact rfl)); simp only [Act.put, List.setIfInBounds_toArray, List.set_cons_succ, List.set_cons_zero])
            (go_big_quiet_want; apply quietK_val; (focus (intro w' hw'; have hk' := hw'.cells; go_simp; all_goals exact rfl)); simp only [Act.put, List.setIfInBounds_toArray, List.set_cons_succ, List.set_cons_zero]; go_big_quiet_on)
            (go_big_quiet_want; apply quietK_val (v := .bool false); (focus (intro w' hw'; have hk' := hw'.cells; have hp0 : ¬ (0 : Int) < (k : Int) := (by have := HP.out; omega); have hp1 : ¬ 0 < k := HP.out; go_simp; all_goals (first | exact rfl | (have := HP.out; omega)))); (simp only [Act.put, List.setIfInBounds_toArray, List.set_cons_succ, List.set_cons_zero]); go_big_quiet_on)
            (go_big_quiet_want; apply quietK_val; (focus (intro w' hw'; have hk' := hw'.cells; go_simp; all_goals exact rfl)); simp only [Act.put, List.setIfInBounds_toArray, List.set_cons_succ, List.set_cons_zero]; go_big_quiet_on)
            iterate 11 go_big_quiet_skip
            (go_big_quiet_want; apply quietK_val; (focus (intro w' hw'; have hk' := hw'.cells; go_simp; all_goals exact rfl)); simp only [Act.put, List.setIfInBounds_toArray, List.set_cons_succ, List.set_cons_zero]; go_big_quiet_on)
            (apply quiet_val; (focus rfl); (focus (intro w' hw'; have hk' := hw'.cells; go_simp; all_goals exact rfl)); simp only [Act.put, List.setIfInBounds_toArray, List.set_cons_succ, List.set_cons_zero])
            clear hwn
            refine wpQuiet_nil ?_
            intro w2 hx2
            go_wp2
            go_roundw
            case rel => exact ⟨k + 1, by have := HLT.out; omega, by go_num, HX.out.trans hx2, upto_succ HNO.out HB.out⟩
            case measure => simp [intOf]; have := HLT.out; omega
    · obtain rfl : k = ls.length := by omega
      have hkI : ¬ ((ls.length : Int) < ls.length) := by omega
      have HV := hide (show okCl ls n = decide ((ls.length : Int) ≤ 12) by rw [okCl_all HNO.out]; congr 1; simp only [eq_iff_iff]; omega)
      go_wp2
      go_ret
      exact Ret.mk (ret_b HV.out.symm) HX.out
set_option maxRecDepth 100000 in
set_option maxHeartbeats 8000000 in
theorem ValidClauseI_any (v : Value) (ls : List Lt) (n : Int) (w : World) (hS : SLt w v ls) (hn0 : 0 ≤ n) (hn1 : n ≤ 140737488355328) :
    Calls Tryz.prog 27 #[v, .int .i64 n] w (Ret (.bool (inR n 1 4 && okCl ls n)) w) := by
  have hS0 := hide hS
  obtain ⟨A, cp, rfl, hl, hlen⟩ := hS.form
  clear hS
  go_enter Tryz.func27, Tryz.ntmps27
  go_wp2
  go_loopw [9] (fun i wr => ∃ k : Nat, k ≤ ls.length ∧ i = .int .i64 k ∧ Ext w wr ∧ ∀ j, j < k → badAt ls n j = false) (fun i _ => ls.length - (intOf i).toNat)
  case atStart => exact ⟨0, Nat.zero_le _, rfl, Ext.refl w, fun j hj => by omega⟩
  case round =>
    obtain ⟨k, hk, rfl, hx, hno⟩ := hrel
    have HNO := hide hno
    have HX := hide hx
    clear hno hx
    by_cases hlt : k < ls.length
    · have hkI : (k : Int) < ls.length := by omega
      obtain ⟨b, off, rfl, hbl, f1, f2, f3⟩ := (hS0.out.ext HX.out).at_ hlt
      have HLT := hide hlt
      go_wp2_with fail
      obtain ⟨z, hz⟩ : ∃ z, z = wr.alloc (.cells #[.int .i64 (ltX ls k), .int .i64 (ltV ls k), .bool (ltN ls k)] 56) := ⟨_, rfl⟩
      have hxz : Ext wr z := by rw [hz]; exact (Ext.refl wr).alloc _
      have z0 : z.cell? ⟨wr.heap.size, 0, none⟩ = some (.int .i64 (ltX ls k)) := by rw [hz]; go_simp
      have z1 : z.cell? ⟨wr.heap.size, 1, none⟩ = some (.int .i64 (ltV ls k)) := by rw [hz]; go_simp
      have z2 : z.cell? ⟨wr.heap.size, 2, none⟩ = some (.bool (ltN ls k)) := by rw [hz]; go_simp
      have zs : wr.heap.size < z.heap.size := by rw [hz]; simp
      have HXZ := hide (HX.out.trans hxz)
      rw [← hz]
      clear f1 f2 f3 hz
      have hbz : b < z.heap.size := Nat.lt_of_lt_of_le hbl hxz.size
      clear hxz
      have hwn := IntWalk.i64_in (n - 1) (by omega)
      cases hq1 : inR (ltX ls k) 0 (n - 1) with
      | false =>
        have HB := hide (show badAt ls n k = true by rw [badAt, okLt, show (lt0 ls k).x = ltX ls k from rfl, hq1]; rfl)
        have HQ1 := hide hq1
        clear hq1 hlt
        refine wp_region_ext (by kernel_rfl) (by kernel_rfl) ?_
        iterate 4 (apply quiet_val; (focus rfl); (focus (intro w' hw'; have hk' := hw'.cells; go_simp; all_goals exact rfl)); simp only [Act.put, List.setIfInBounds_toArray, List.set_cons_succ, List.set_cons_zero])
        apply quiet_call; (focus rfl); (focus (intro w' hw'; go_simp; all_goals (first | exact rfl | (apply And.intro <;> exact rfl))))
        · exact fun w' hw' => (within_any _ _ _ w').mono fun e w2 h => ⟨by rw [h.1, HQ1.out], h.2 ▸ hw'⟩
        (simp only [Act.put, List.setIfInBounds_toArray, List.set_cons_succ, List.set_cons_zero])
        iterate 2 (apply quiet_val; (focus rfl); (focus (intro w' hw'; have hk' := hw'.cells; go_simp; all_goals exact rfl)); simp only [Act.put, List.setIfInBounds_toArray, List.set_cons_succ, List.set_cons_zero])
        iterate 4 go_big_quiet_skip
        iterate 2 (apply quiet_val; (focus rfl); (focus (intro w' hw'; have hk' := hw'.cells; go_simp; all_goals exact rfl)); simp only [Act.put, List.setIfInBounds_toArray, List.set_cons_succ, List.set_cons_zero])
        iterate 3 go_big_quiet_skip
        iterate 8 go_big_quiet_skip
        go_big_quiet_skip
        (apply quiet_val; (focus rfl); (focus (intro w' hw'; have hk' := hw'.cells; go_simp; all_goals exact rfl)); simp only [Act.put, List.setIfInBounds_toArray, List.set_cons_succ, List.set_cons_zero])
        refine wpQuiet_nil ?_
        intro w2 hx2
        go_wp2
        go_ret
        exact Ret.mk (ret_b (by rw [okCl_bad HLT.out HB.out, Bool.and_false])) (HXZ.out.trans hx2)
      | true =>
        have HQ1 := hide hq1
        cases hq2 : inR (ltV ls k) 0 5 with
        | false =>
          have HB := hide (show badAt ls n k = true by rw [badAt, okLt, show (lt0 ls k).x = ltX ls k from rfl, show (lt0 ls k).v = ltV ls k from rfl, hq1, hq2]; rfl)
          have HQ2 := hide hq2
          clear hq1 hq2 hlt
          refine wp_region_ext (by kernel_rfl) (by kernel_rfl) ?_
          iterate 4 (apply quiet_val; (focus rfl); (focus (intro w' hw'; have hk' := hw'.cells; go_simp; all_goals exact rfl)); simp only [Act.put, List.setIfInBounds_toArray, List.set_cons_succ, List.set_cons_zero])
          apply quiet_call; (focus rfl); (focus (intro w' hw'; go_simp; all_goals (first | exact rfl | (apply And.intro <;> exact rfl))))
          · exact fun w' hw' => (within_any _ _ _ w').mono fun e w2 h => ⟨by rw [h.1, HQ1.out], h.2 ▸ hw'⟩
          (simp only [Act.put, List.setIfInBounds_toArray, List.set_cons_succ, List.set_cons_zero])
          iterate 2 (apply quiet_val; (focus rfl); (focus (intro w' hw'; have hk' := hw'.cells; go_simp; all_goals exact rfl)); simp only [Act.put, List.setIfInBounds_toArray, List.set_cons_succ, List.set_cons_zero])
          iterate 2 (go_big_quiet_want; apply quietK_val; (focus (intro w' hw'; have hk' := hw'.cells; go_simp; all_goals exact rfl)); simp only [Act.put, List.setIfInBounds_toArray, List.set_cons_succ, List.set_cons_zero]; go_big_quiet_on)
          go_big_quiet_want; apply quietK_call; (focus (intro w' hw'; go_simp; all_goals (first | exact rfl | (apply And.intro <;> exact rfl))))
          · exact fun w' hw' => (valueOk_any _ w').mono fun e w2 h => ⟨by rw [h.1, HQ2.out], h.2 ▸ hw'⟩
          (simp only [Act.put, List.setIfInBounds_toArray, List.set_cons_succ, List.set_cons_zero]; go_big_quiet_on)
          (go_big_quiet_want; apply quietK_val; (focus (intro w' hw'; have hk' := hw'.cells; go_simp; all_goals exact rfl)); simp only [Act.put, List.setIfInBounds_toArray, List.set_cons_succ, List.set_cons_zero]; go_big_quiet_on)
          iterate 2 (apply quiet_val; (focus rfl); (focus (intro w' hw'; have hk' := hw'.cells; go_simp; all_goals exact rfl)); simp only [Act.put, List.setIfInBounds_toArray, List.set_cons_succ, List.set_cons_zero])
          iterate 3 go_big_quiet_skip
          iterate 8 go_big_quiet_skip
          go_big_quiet_skip
          (apply quiet_val; (focus rfl); (focus (intro w' hw'; have hk' := hw'.cells; go_simp; all_goals exact rfl)); simp only [Act.put, List.setIfInBounds_toArray, List.set_cons_succ, List.set_cons_zero])
          refine wpQuiet_nil ?_
          intro w2 hx2
          go_wp2
          go_ret
          exact Ret.mk (ret_b (by rw [okCl_bad HLT.out HB.out, Bool.and_false])) (HXZ.out.trans hx2)
        | true =>
          have HQ2 := hide hq2
          have HOK := hide (show okLt (lt0 ls k) n = true by rw [okLt, show (lt0 ls k).x = ltX ls k from rfl, show (lt0 ls k).v = ltV ls k from rfl, hq1, hq2]; rfl)
          clear hq1 hq2
          by_cases hk0 : 0 < k
          · have HP := hide hk0
            obtain ⟨b', off', he, hbl', g1, g2, g3⟩ := (hS0.out.ext HXZ.out).at_ (k := k - 1) (by omega)
            injection he with he
            injection he with he1 he2 he3
            subst he1 he2
            have hi0 : (1 : Int) ≤ (k : Int) := by omega
            have hi1 : (0 : Int) ≤ (k : Int) - 1 := by omega
            have hi2 : (k : Int) - 1 < ls.length := by omega
            have hi3 : ((k : Int) - 1).toNat = k - 1 := by omega
            have hwr := IntWalk.i64_in ((k : Int) - 1) (by omega)
            have hcl := cmpL_ls (lt0 ls (k - 1)) (lt0 ls k)
            cases hq3 : lsB (lt0 ls (k - 1)) (lt0 ls k) with
            | false =>
              have HC := hide (show 0 ≤ cmpL (lt0 ls (k - 1)) (lt0 ls k) by rw [hq3] at hcl; simpa using hcl)
              have HB := hide (show badAt ls n k = true by rw [badAt, HOK.out, hq3, decide_eq_true hk0]; rfl)
              clear hq3 hlt hk0 hcl
              refine wp_region_ext (by kernel_rfl) (by kernel_rfl) ?_
              iterate 4 (apply quiet_val; (focus rfl); (focus (intro w' hw'; have hk' := hw'.cells; go_simp; all_goals exact rfl)); simp only [Act.put, List.setIfInBounds_toArray, List.set_cons_succ, List.set_cons_zero])
              apply quiet_call; (focus rfl); (focus (intro w' hw'; go_simp; all_goals (first | exact rfl | (apply And.intro <;> exact rfl))))
              · exact fun w' hw' => (within_any _ _ _ w').mono fun e w2 h => ⟨by rw [h.1, HQ1.out], h.2 ▸ hw'⟩
              (simp only [Act.put, List.setIfInBounds_toArray, List.set_cons_succ, List.set_cons_zero])
              iterate 2 (apply quiet_val; (focus rfl); (focus (intro w' hw'; have hk' := hw'.cells; go_simp; all_goals exact rfl)); simp only [Act.put, List.setIfInBounds_toArray, List.set_cons_succ, List.set_cons_zero])
              iterate 2 (go_big_quiet_want; apply quietK_val; (focus (intro w' hw'; have hk' := hw'.cells; go_simp; all_goals exact rfl)); simp only [Act.put, List.setIfInBounds_toArray, List.set_cons_succ, List.set_cons_zero]; go_big_quiet_on)
              go_big_quiet_want; apply quietK_call; (focus (intro w' hw'; go_simp; all_goals (first | exact rfl | (apply And.intro <;> exact rfl))))
              · exact fun w' hw' => (valueOk_any _ w').mono fun e w2 h => ⟨by rw [h.1, HQ2.out], h.2 ▸ hw'⟩
              (simp only [Act.put, List.setIfInBounds_toArray, List.set_cons_succ, List.set_cons_zero]; go_big_quiet_on)
              (go_big_quiet_want; apply quietK_val; (focus (intro w' hw'; have hk' := hw'.cells; go_simp; all_goals exact rfl)); simp only [Act.put, List.setIfInBounds_toArray, List.set_cons_succ, List.set_cons_zero]; go_big_quiet_on)
              iterate 2 (apply quiet_val; (focus rfl); (focus (intro w' hw'; have hk' := hw'.cells; go_simp; all_goals exact rfl)); simp only [Act.put, List.setIfInBounds_toArray, List.set_cons_succ, List.set_cons_zero])
              (go_big_quiet_want; apply quietK_val; (focus (intro w' hw'; have hk' := hw'.cells; go_simp; all_goals exact rfl)); simp only [Act.put, List.setIfInBounds_toArray, List.set_cons_succ, List.set_cons_zero]; go_big_quiet_on)
              (go_big_quiet_want; apply quietK_val (v := .bool true); (focus (intro w' hw'; have hk' := hw'.cells; have hp0 : (0 : Int) < (k : Int) := (by have := HP.out; omega); have hp1 : 0 < k := HP.out; go_simp; all_goals (first | exact rfl | (have := HP.out; omega)))); (simp only [Act.put, List.setIfInBounds_toArray, List.set_cons_succ, List.set_cons_zero]); go_big_quiet_on)
              (go_big_quiet_want; apply quietK_val; (focus (intro w' hw'; have hk' := hw'.cells; go_simp; all_goals exact rfl)); simp only [Act.put, List.setIfInBounds_toArray, List.set_cons_succ, List.set_cons_zero]; go_big_quiet_on)
              iterate 6 (go_big_quiet_want; apply quietK_val; (focus (intro w' hw'; have hk' := hw'.cells; go_simp; all_goals exact rfl)); simp only [Act.put, List.setIfInBounds_toArray, List.set_cons_succ, List.set_cons_zero]; go_big_quiet_on)
              go_big_quiet_want; apply quietK_call; (focus (intro w' hw'; go_simp; all_goals (first | exact rfl | (apply And.intro <;> exact rfl))))
              · exact fun w' hw' => Ret.quiet (compare_any (lt0 ls (k - 1)) (lt0 ls k) w') hw'
              (simp only [Act.put, List.setIfInBounds_toArray, List.set_cons_succ, List.set_cons_zero]; go_big_quiet_on)
              (go_big_quiet_want; apply quietK_val (v := .bool true); (focus (intro w' hw'; have hc0 := HC.out; go_simp; all_goals exact rfl)); (simp only [Act.put, List.setIfInBounds_toArray, List.set_cons_succ, List.set_cons_zero]); go_big_quiet_on)
              (go_big_quiet_want; apply quietK_val; (focus (intro w' hw'; have hk' := hw'.cells; go_simp; all_goals exact rfl)); simp only [Act.put, List.setIfInBounds_toArray, List.set_cons_succ, List.set_cons_zero]; go_big_quiet_on)
              (apply quiet_val; (focus rfl); (focus (intro w' hw'; have hk' := hw'.cells; go_simp; all_goals exact rfl)); simp only [Act.put, List.setIfInBounds_toArray, List.set_cons_succ, List.set_cons_zero])
              refine wpQuiet_nil ?_
              intro w2 hx2
              go_wp2
              go_ret
              exact Ret.mk (ret_b (by rw [okCl_bad HLT.out HB.out, Bool.and_false])) (HXZ.out.trans hx2)
            | true =>
              have HC := hide (show ¬ 0 ≤ cmpL (lt0 ls (k - 1)) (lt0 ls k) by rw [hq3] at hcl; simpa using hcl)
              have HB := hide (show badAt ls n k = false by rw [badAt, HOK.out, hq3]; simp)
              clear hq3 hlt hk0 hcl
              refine wp_region_ext (by kernel_rfl) (by kernel_rfl) ?_
              iterate 4 (apply quiet_val; (focus rfl); (focus (intro w' hw'; have hk' := hw'.cells; go_simp; all_goals exact rfl)); simp only [Act.put, List.setIfInBounds_toArray, List.set_cons_succ, List.set_cons_zero])
              apply quiet_call; (focus rfl); (focus (intro w' hw'; go_simp; all_goals (first | exact rfl | (apply And.intro <;> exact rfl))))
              · exact fun w' hw' => (within_any _ _ _ w').mono fun e w2 h => ⟨by rw [h.1, HQ1.out], h.2 ▸ hw'⟩
              (simp only [Act.put, List.setIfInBounds_toArray, List.set_cons_succ, List.set_cons_zero])
              iterate 2 (apply quiet_val; (focus rfl); (focus (intro w' hw'; have hk' := hw'.cells; go_simp; all_goals exact rfl)); simp only [Act.put, List.setIfInBounds_toArray, List.set_cons_succ, List.set_cons_zero])
              iterate 2 (go_big_quiet_want; apply quietK_val; (focus (intro w' hw'; have hk' := hw'.cells; go_simp; all_goals exact rfl)); simp only [Act.put, List.setIfInBounds_toArray, List.set_cons_succ, List.set_cons_zero]; go_big_quiet_on)
              go_big_quiet_want; apply quietK_call; (focus (intro w' hw'; go_simp; all_goals (first | exact rfl | (apply And.intro <;> exact rfl))))
              · exact fun w' hw' => (valueOk_any _ w').mono fun e w2 h => ⟨by rw [h.1, HQ2.out], h.2 ▸ hw'⟩
              (simp only [Act.put, List.setIfInBounds_toArray, List.set_cons_succ, List.set_cons_zero]; go_big_quiet_on)
              (go_big_quiet_want; apply quietK_val; (focus (intro w' hw'; have hk' := hw'.cells; go_simp; all_goals exact rfl)); simp only [Act.put, List.setIfInBounds_toArray, List.set_cons_succ, List.set_cons_zero]; go_big_quiet_on)
              iterate 2 (apply quiet_val; (focus rfl); (focus (intro w' hw'; have hk' := hw'.cells; go_simp; all_goals exact rfl)); simp only [Act.put, List.setIfInBounds_toArray, List.set_cons_succ, List.set_cons_zero])
              (go_big_quiet_want; apply quietK_val; (focus (intro w' hw'; have hk' := hw'.cells; go_simp; all_goals exact rfl)); simp only [Act.put, List.setIfInBounds_toArray, List.set_cons_succ, List.set_cons_zero]; go_big_quiet_on)
              (go_big_quiet_want; apply quietK_val (v := .bool true); (focus (intro w' hw'; have hk' := hw'.cells; have hp0 : (0 : Int) < (k : Int) := (by have := HP.out; omega); have hp1 : 0 < k := HP.out; go_simp; all_goals (first | exact rfl | (have := HP.out; omega)))); (simp only [Act.put, List.setIfInBounds_toArray, List.set_cons_succ, List.set_cons_zero]); go_big_quiet_on)
              (go_big_quiet_want; apply quietK_val; (focus (intro w' hw'; have hk' := hw'.cells; go_simp; all_goals exact rfl)); simp only [Act.put, List.setIfInBounds_toArray, List.set_cons_succ, List.set_cons_zero]; go_big_quiet_on)
              iterate 6 (go_big_quiet_want; apply quietK_val; (focus (intro w' hw'; have hk' := hw'.cells; go_simp; all_goals exact rfl)); simp only [Act.put, List.setIfInBounds_toArray, List.set_cons_succ, List.set_cons_zero]; go_big_quiet_on)
              go_big_quiet_want; apply quietK_call; (focus (intro w' hw'; go_simp; all_goals (first | exact rfl | (apply And.intro <;> exact rfl))))
              · exact fun w' hw' => Ret.quiet (compare_any (lt0 ls (k - 1)) (lt0 ls k) w') hw'
              (simp only [Act.put, List.setIfInBounds_toArray, List.set_cons_succ, List.set_cons_zero]; go_big_quiet_on)
              (go_big_quiet_want; apply quietK_val (v := .bool false); (focus (intro w' hw'; have hc0 := HC.out; go_simp; all_goals exact rfl)); (simp only [Act.put, List.setIfInBounds_toArray, List.set_cons_succ, List.set_cons_zero]); go_big_quiet_on)
              (go_big_quiet_want; apply quietK_val; (focus (intro w' hw'; have hk' := hw'.cells; go_simp; all_goals exact rfl)); simp only [Act.put, List.setIfInBounds_toArray, List.set_cons_succ, List.set_cons_zero]; go_big_quiet_on)
              (apply quiet_val; (focus rfl); (focus (intro w' hw'; have hk' := hw'.cells; go_simp; all_goals exact rfl)); simp only [Act.put, List.setIfInBounds_toArray, List.set_cons_succ, List.set_cons_zero])
              clear hwr hi0 hi1 hi2 hi3 hwn
              refine wpQuiet_nil ?_
              intro w2 hx2
              go_wp2
              go_roundw
              case rel => exact ⟨k + 1, by have := HLT.out; omega, by go_num, HXZ.out.trans hx2, upto_succ HNO.out HB.out⟩
              case measure => simp [intOf]; have := HLT.out; omega
          · have HP := hide hk0
            have HB := hide (show badAt ls n k = false by rw [badAt, HOK.out, decide_eq_false hk0]; rfl)
            clear hlt hk0
            refine wp_region_ext (by kernel_rfl) (by kernel_rfl) ?_
            iterate 4 (apply quiet_val; (focus rfl); (focus (intro w' hw'; have hk' := hw'.cells; go_simp; all_goals exact rfl)); simp only [Act.put, List.setIfInBounds_toArray, List.set_cons_succ, List.set_cons_zero])
            apply quiet_call; (focus rfl); (focus (intro w' hw'; go_simp; all_goals (first | exact rfl | (apply And.intro <;> exact rfl))))
            · exact fun w' hw' => (within_any _ _ _ w').mono fun e w2 h => ⟨by rw [h.1, HQ1.out], h.2 ▸ hw'⟩
            (simp only [Act.put, List.setIfInBounds_toArray, List.set_cons_succ, List.set_cons_zero])
            iterate 2 (apply quiet_val; (focus rfl); (focus (intro w' hw'; have hk' := hw'.cells; go_simp; all_goals exact rfl)); simp only [Act.put, List.setIfInBounds_toArray, List.set_cons_succ, List.set_cons_zero])
            iterate 2 (go_big_quiet_want; apply quietK_val; (focus (intro w' hw'; have hk' := hw'.cells; go_simp; all_goals exact rfl)); simp only [Act.put, List.setIfInBounds_toArray, List.set_cons_succ, List.set_cons_zero]; go_big_quiet_on)
            go_big_quiet_want; apply quietK_call; (focus (intro w' hw'; go_simp; all_goals (first | exact rfl | (apply And.intro <;> exact rfl))))
            · exact fun w' hw' => (valueOk_any _ w').mono fun e w2 h => ⟨by rw [h.1, HQ2.out], h.2 ▸ hw'⟩
            (simp only [Act.put, List.setIfInBounds_toArray, List.set_cons_succ, List.set_cons_zero]; go_big_quiet_on)
            (go_big_quiet_want; apply quietK_val; (focus (intro w' hw'; have hk' := hw'.cells; go_simp; all_goals exact rfl)); simp only [Act.put, List.setIfInBounds_toArray, List.set_cons_succ, List.set_cons_zero]; go_big_quiet_on)
            iterate 2 (apply quiet_val; (focus rfl); (focus (intro w' hw'; have hk' := hw'.cells; go_simp; all_goals exact rfl)); simp only [Act.put, List.setIfInBounds_toArray, List.set_cons_succ, List.set_cons_zero])
            (go_big_quiet_want; apply quietK_val; (focus (intro w' hw'; have hk' := hw'.cells; go_simp; all_goals exact rfl)); simp only [Act.put, List.setIfInBounds_toArray, List.set_cons_succ, List.set_cons_zero]; go_big_quiet_on)
            (go_big_quiet_want; apply quietK_val (v := .bool false); (focus (intro w' hw'; have hk' := hw'.cells; have hp0 : ¬ (0 : Int) < (k : Int) := (by have := HP.out; omega); have hp1 : ¬ 0 < k := HP.out; go_simp; all_goals (first | exact rfl | (have := HP.out; omega)))); (simp only [Act.put, List.setIfInBounds_toArray, List.set_cons_succ, List.set_cons_zero]); go_big_quiet_on)
            (go_big_quiet_want; apply quietK_val; (focus (intro w' hw'; have hk' := hw'.cells; go_simp; all_goals exact rfl)); simp only [Act.put, List.setIfInBounds_toArray, List.set_cons_succ, List.set_cons_zero]; go_big_quiet_on)
            iterate 8 go_big_quiet_skip
            (go_big_quiet_want; apply quietK_val; (focus (intro w' hw'; have hk' := hw'.cells; go_simp; all_goals exact rfl)); simp only [Act.put, List.setIfInBounds_toArray, List.set_cons_succ, List.set_cons_zero]; go_big_quiet_on)
            (apply quiet_val; (focus rfl); (focus (intro w' hw'; have hk' := hw'.cells; go_simp; all_goals exact rfl)); simp only [Act.put, List.setIfInBounds_toArray, List.set_cons_succ, List.set_cons_zero])
            clear hwn
            refine wpQuiet_nil ?_
            intro w2 hx2
            go_wp2
            go_roundw
            case rel => exact ⟨k + 1, by have := HLT.out; omega, by go_num, HXZ.out.trans hx2, upto_succ HNO.out HB.out⟩
            case measure => simp [intOf]; have := HLT.out; omega
    · obtain rfl : k = ls.length := by omega
      have hkI : ¬ ((ls.length : Int) < ls.length) := by omega
      have HV := hide (show okCl ls n = decide ((ls.length : Int) ≤ 12) by rw [okCl_all HNO.out]; congr 1; simp only [eq_iff_iff]; omega)
      cases hq : inR n 1 4 with
      | true =>
        have HQ := hide hq
        clear hq
        go_wp2_with (go_at_call 23; refine (within_any _ _ _ _).mono ?_; rintro e w' ⟨rfl, rfl⟩; rw [HQ.out])
        go_ret
        exact Ret.mk (ret_b (by rw [HQ.out, HV.out, Bool.true_and])) HX.out
      | false =>
        have HQ := hide hq
        clear hq
        go_wp2_with (go_at_call 23; refine (within_any _ _ _ _).mono ?_; rintro e w' ⟨rfl, rfl⟩; rw [HQ.out])
        go_ret
        exact Ret.mk (ret_b (by rw [HQ.out, Bool.false_and])) HX.out
end Go.Proofs.YtgpbmggfpbebmaaGreat
