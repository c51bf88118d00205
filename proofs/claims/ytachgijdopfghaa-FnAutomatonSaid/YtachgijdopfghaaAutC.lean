/- The walks of AutomatonAccepts, in the reference and in the program. -/
import Derived.Test.YtachgijdopfghaaAutA
namespace Go.Proofs.Ytachgijdopfghaa
open Go.RowKit

set_option maxHeartbeats 2000000 in
theorem AutomatonAcceptsS_any (vn vf v : Value) (a : Au) (xs : List Int) (w : World) (hN : SRows w vn a.next) (hF : SInts w vf a.final) (hS : SInts w v xs) :
    Calls Try.prog 11 #[.agg #[vn, vf], v] w (Ret (.bool (accB a xs)) w) := by
  have hN0 := hide hN
  have hF0 := hide hF
  have hS0 := hide hS
  obtain ⟨A, c, rfl, -, hln⟩ := hN.form
  obtain ⟨A', c', rfl, -, hlf⟩ := hF.form
  obtain ⟨A2, c2, rfl, -, hlx⟩ := hS.form
  clear hN hF hS
  have hx0 := (Ext.refl w).alloc (.cells #[.slice A a.next.length c, .slice A' a.final.length c'] 26)
  have f0 : (w.alloc (.cells #[.slice A a.next.length c, .slice A' a.final.length c'] 26)).cell? ⟨w.heap.size, 0, none⟩ = some (.slice A a.next.length c) := by go_simp
  have f1 : (w.alloc (.cells #[.slice A a.next.length c, .slice A' a.final.length c'] 26)).cell? ⟨w.heap.size, 1, none⟩ = some (.slice A' a.final.length c') := by go_simp
  have hbw : w.heap.size < (w.alloc (.cells #[.slice A a.next.length c, .slice A' a.final.length c'] 26)).heap.size := by simp
  by_cases hv : vAut a = true
  · by_cases hw : vWord xs = true
    · have HV := hide hv
      have HW := hide hw
      have hx5 : allR xs 0 5 = true := by simp only [vWord, Bool.and_eq_true] at hw; exact hw.2
      have hl1 := (vAut_len hv).1
      have HX := hide hx5; clear hx5
      go_enter Try.func11, Try.ntmps11
      go_wp2
      refine wp_region_ext (by kernel_rfl) (by kernel_rfl) ?_
      (apply quiet_val; (focus rfl); (focus (intro w' hw'; have hk' := hw'.cells; go_simp; all_goals exact rfl)); simp only [Act.put, List.setIfInBounds_toArray, List.set_cons_succ, List.set_cons_zero])
      apply quiet_call; (focus rfl); (focus (intro w' hw'; go_simp; all_goals (first | exact rfl | (apply And.intro <;> exact rfl))))
      · exact fun w' hw' => Ret.quiet (validAutomaton_any _ _ a _ (hN0.out.ext (hx0.trans hw')) (hF0.out.ext (hx0.trans hw'))) hw'
      rw [hv]
      (simp only [Act.put, List.setIfInBounds_toArray, List.set_cons_succ, List.set_cons_zero])
      iterate 2 (apply quiet_val; (focus rfl); (focus (intro w' hw'; have hk' := hw'.cells; go_simp; all_goals exact rfl)); simp only [Act.put, List.setIfInBounds_toArray, List.set_cons_succ, List.set_cons_zero])
      apply quiet_call; (focus rfl); (focus (intro w' hw'; go_simp; all_goals (first | exact rfl | (apply And.intro <;> exact rfl))))
      · exact fun w' hw' => same_quiet (validWord_any _ xs _ (hS0.out.ext (hx0.trans hw'))) hw'
      rw [hw]
      (simp only [Act.put, List.setIfInBounds_toArray, List.set_cons_succ, List.set_cons_zero])
      iterate 5 (apply quiet_val; (focus rfl); (focus (intro w' hw'; have hk' := hw'.cells; go_simp; all_goals exact rfl)); simp only [Act.put, List.setIfInBounds_toArray, List.set_cons_succ, List.set_cons_zero])
      apply quiet_call; (focus rfl); (focus (intro w' hw'; go_simp; all_goals (first | exact rfl | (apply And.intro <;> exact rfl))))
      · exact fun w' hw' => Ret.quiet (runFrom_any _ _ _ a 0 xs _ (hN0.out.ext (hx0.trans hw')) (hF0.out.ext (hx0.trans hw')) (hS0.out.ext (hx0.trans hw')) HV.out (by omega) HX.out) hw'
      (simp only [Act.put, List.setIfInBounds_toArray, List.set_cons_succ, List.set_cons_zero])
      apply quiet_call; (focus rfl); (focus (intro w' hw'; go_simp; all_goals (first | exact rfl | (apply And.intro <;> exact rfl))))
      · exact fun w' hw' => Ret.quiet (isFinal_any _ _ a _ _ (hN0.out.ext (hx0.trans hw')) (hF0.out.ext (hx0.trans hw'))) hw'
      (simp only [Act.put, List.setIfInBounds_toArray, List.set_cons_succ, List.set_cons_zero])
      iterate 2 (apply quiet_val; (focus rfl); (focus (intro w' hw'; have hk' := hw'.cells; go_simp; all_goals exact rfl)); simp only [Act.put, List.setIfInBounds_toArray, List.set_cons_succ, List.set_cons_zero])
      refine wpQuiet_nil ?_
      intro w2 hx2
      go_wp2
      go_ret
      exact Ret.mk (ret_b (by rw [accB, HV.out, HW.out]; rfl)) (hx0.trans hx2)
    · have hw' : vWord xs = false := Bool.eq_false_iff.2 hw
      have HW := hide hw'
      clear hw
      go_enter Try.func11, Try.ntmps11
      go_wp2
      refine wp_region_ext (by kernel_rfl) (by kernel_rfl) ?_
      (apply quiet_val; (focus rfl); (focus (intro w' hw'; have hk' := hw'.cells; go_simp; all_goals exact rfl)); simp only [Act.put, List.setIfInBounds_toArray, List.set_cons_succ, List.set_cons_zero])
      apply quiet_call; (focus rfl); (focus (intro w' hw'; go_simp; all_goals (first | exact rfl | (apply And.intro <;> exact rfl))))
      · exact fun w' hw' => Ret.quiet (validAutomaton_any _ _ a _ (hN0.out.ext (hx0.trans hw')) (hF0.out.ext (hx0.trans hw'))) hw'
      rw [hv]
      (simp only [Act.put, List.setIfInBounds_toArray, List.set_cons_succ, List.set_cons_zero])
      iterate 2 (apply quiet_val; (focus rfl); (focus (intro w' hw'; have hk' := hw'.cells; go_simp; all_goals exact rfl)); simp only [Act.put, List.setIfInBounds_toArray, List.set_cons_succ, List.set_cons_zero])
      apply quiet_call; (focus rfl); (focus (intro w' hw'; go_simp; all_goals (first | exact rfl | (apply And.intro <;> exact rfl))))
      · exact fun w' hw' => same_quiet (validWord_any _ xs _ (hS0.out.ext (hx0.trans hw'))) hw'
      rw [hw']
      (simp only [Act.put, List.setIfInBounds_toArray, List.set_cons_succ, List.set_cons_zero])
      iterate 2 (apply quiet_val; (focus rfl); (focus (intro w' hw'; have hk' := hw'.cells; go_simp; all_goals exact rfl)); simp only [Act.put, List.setIfInBounds_toArray, List.set_cons_succ, List.set_cons_zero])
      iterate 5 (refine BigFrame.wpQuiet_skip (by rfl) ?_; (simp only [Act.put, List.setIfInBounds_toArray, List.set_cons_succ, List.set_cons_zero]))
      iterate 2 (apply quiet_val; (focus rfl); (focus (intro w' hw'; have hk' := hw'.cells; go_simp; all_goals exact rfl)); simp only [Act.put, List.setIfInBounds_toArray, List.set_cons_succ, List.set_cons_zero])
      refine wpQuiet_nil ?_
      intro w2 hx2
      go_wp2
      go_ret
      exact Ret.mk (ret_b (by rw [accB, HW.out]; simp)) (hx0.trans hx2)
  · have hv' : vAut a = false := Bool.eq_false_iff.2 hv
    have HV := hide hv'
    clear hv
    go_enter Try.func11, Try.ntmps11
    go_wp2
    refine wp_region_ext (by kernel_rfl) (by kernel_rfl) ?_
    (apply quiet_val; (focus rfl); (focus (intro w' hw'; have hk' := hw'.cells; go_simp; all_goals exact rfl)); simp only [Act.put, List.setIfInBounds_toArray, List.set_cons_succ, List.set_cons_zero])
    apply quiet_call; (focus rfl); (focus (intro w' hw'; go_simp; all_goals (first | exact rfl | (apply And.intro <;> exact rfl))))
    · exact fun w' hw' => Ret.quiet (validAutomaton_any _ _ a _ (hN0.out.ext (hx0.trans hw')) (hF0.out.ext (hx0.trans hw'))) hw'
    rw [hv']
    (simp only [Act.put, List.setIfInBounds_toArray, List.set_cons_succ, List.set_cons_zero])
    (apply quiet_val; (focus rfl); (focus (intro w' hw'; have hk' := hw'.cells; go_simp; all_goals exact rfl)); simp only [Act.put, List.setIfInBounds_toArray, List.set_cons_succ, List.set_cons_zero])
    iterate 2 (refine BigFrame.wpQuiet_skip (by rfl) ?_; (simp only [Act.put, List.setIfInBounds_toArray, List.set_cons_succ, List.set_cons_zero]))
    iterate 2 (apply quiet_val; (focus rfl); (focus (intro w' hw'; have hk' := hw'.cells; go_simp; all_goals exact rfl)); simp only [Act.put, List.setIfInBounds_toArray, List.set_cons_succ, List.set_cons_zero])
    iterate 5 (refine BigFrame.wpQuiet_skip (by rfl) ?_; (simp only [Act.put, List.setIfInBounds_toArray, List.set_cons_succ, List.set_cons_zero]))
    iterate 2 (apply quiet_val; (focus rfl); (focus (intro w' hw'; have hk' := hw'.cells; go_simp; all_goals exact rfl)); simp only [Act.put, List.setIfInBounds_toArray, List.set_cons_succ, List.set_cons_zero])
    refine wpQuiet_nil ?_
    intro w2 hx2
    go_wp2
    go_ret
    exact Ret.mk (ret_b (by rw [accB, HV.out]; rfl)) (hx0.trans hx2)
end Go.Proofs.Ytachgijdopfghaa
