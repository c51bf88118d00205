/- The walk of CompulsoryPart in the reference. -/
import Derived.Test.YtjpdebgejlfeaaaDoorCompI
import Derived.Test.YtjpdebgejlfeaaaDoorDom
import Derived.Test.YtjpdebgejlfeaaaDoorTail
import Derived.Test.YtjpdebgejlfeaaaDoorQ12
namespace Go.Proofs.YtjpdebgejlfeaaaDoor
open Go.RowKit

theorem domL_ends {n : Nat} (h1 : 1 ≤ n) (h2 : n ≤ 63) : 0 < (domL n).length ∧ at0 (domL n) 0 = lowB n ∧ at0 (domL n) ((domL n).length - 1) = topB n ∧ lowB n < 6 ∧ topB n < 6 := by
  rcases dom_cases h1 h2 with rfl | rfl | rfl | rfl | rfl | rfl | rfl | rfl | rfl | rfl | rfl | rfl | rfl | rfl | rfl | rfl | rfl | rfl | rfl | rfl | rfl | rfl | rfl | rfl | rfl | rfl | rfl | rfl | rfl | rfl | rfl | rfl | rfl | rfl | rfl | rfl | rfl | rfl | rfl | rfl | rfl | rfl | rfl | rfl | rfl | rfl | rfl | rfl | rfl | rfl | rfl | rfl | rfl | rfl | rfl | rfl | rfl | rfl | rfl | rfl | rfl | rfl | rfl <;> decide
/-- The result; a definition, else the walk parts on its 'if'. -/
def compP (n : Nat) (d : Int) : Int × Int := if (topB n : Int) < lowB n + d then ((topB n : Int), (lowB n : Int) + d) else (0, 0)
set_option maxRecDepth 100000 in
set_option maxHeartbeats 4000000 in
theorem compulsory_any (n : Nat) (d : Int) (w : World) (h1 : 1 ≤ n) (h2 : n ≤ 63) (h3 : 1 ≤ d) (h4 : d ≤ 6) :
    Calls Tryd.prog 59 #[.int .i64 n, .int .i64 d] w (Ret (pairV (compP n d)) w) := by
  obtain ⟨e0, e1, e2, e3, e4⟩ := domL_ends h1 h2
  have hl6 := domL_len n
  have E1 := hide e1
  have E2 := hide e2
  clear e1 e2
  go_enter Tryd.func59, Tryd.ntmps59
  go_wp2_with fail
  refine (domainValues_any (n : Int) w (by omega) (by omega)).mono ?_
  rintro e w1 ⟨A1, cc1, b1, m1, f1, rfl, hc1, hd1, -, ho1, hx1⟩
  obtain ⟨rfl, hr, hm, hf⟩ := ho1 e0
  obtain ⟨k, hk⟩ : ∃ k, (domL n).length = k + 1 := ⟨(domL n).length - 1, by omega⟩
  have g0 := hr.cell (i := 0) (by omega)
  rw [hf 0 (by omega), E1.out] at g0
  have g1 := hr.cell (i := k) (by omega)
  rw [hf k (by omega), show at0 (domL n) k = topB n by rw [← E2.out, hk]; rfl] at g1
  have hb := hr.lt
  have HX1 := hide hx1
  obtain ⟨L, hL⟩ : ∃ L, L = (domL n).length := ⟨_, rfl⟩
  rw [← hL] at hk hl6 ⊢
  have hne : ((L : Int) == 0) = false := by rw [beq_eq_false_iff_ne]; omega
  have hkw : IntKind.i64.wrap ((L : Int) - 1) = (k : Int) := by
    rw [show (L : Int) - 1 = (k : Int) by omega]
    exact IntWalk.i64_in (k : Int) (by omega)
  have hkl : (k : Int) < (L : Int) := by omega
  have hk0 : (0 : Int) < (L : Int) := by omega
  have hk0n : 0 < L := by omega
  have hwr := IntWalk.i64_in ((lowB n : Int) + d) (by omega)
  clear hr hf hm E1 E2 ho1 hx1 hd1 hc1 hL hk e0 hl6
  by_cases hlt : (topB n : Int) < lowB n + d
  · have hdec : decide ((lowB n : Int) + d ≤ topB n) = false := decide_eq_false (by omega)
    have HV := hide (show compP n d = ((topB n : Int), (lowB n : Int) + d) by rw [compP, if_pos hlt])
    clear hlt
    go_wp2_with fail
    refine wp_region_ext (by kernel_rfl) (by kernel_rfl) ?_
    iterate 4 (apply quiet_val; (focus rfl); (focus (intro w' hw'; have hk' := hw'.cells; go_simp; all_goals exact rfl)); simp only [Act.put, List.setIfInBounds_toArray, List.set_cons_succ, List.set_cons_zero])
    iterate 12 (go_big_quiet_want; apply quietK_val; (focus (intro w' hw'; have hk' := hw'.cells; go_simp; all_goals exact rfl)); simp only [Act.put, List.setIfInBounds_toArray, List.set_cons_succ, List.set_cons_zero]; go_big_quiet_on)
    (apply quiet_val; (focus rfl); (focus (intro w' hw'; have hk' := hw'.cells; go_simp; all_goals exact rfl)); simp only [Act.put, List.setIfInBounds_toArray, List.set_cons_succ, List.set_cons_zero])
    refine wpQuiet_nil ?_
    intro w2 hx2
    have g0 := (hx2.cells _ _ hb).trans g0
    have g1 := (hx2.cells _ _ hb).trans g1
    have hb := Nat.lt_of_lt_of_le hb hx2.size
    have HX2 := hide (HX1.out.trans hx2)
    clear hx2
    go_wp2_with fail
    refine wp_region_ext (by kernel_rfl) (by kernel_rfl) ?_
    iterate 13 (apply quiet_val; (focus rfl); (focus (intro w' hw'; have hk' := hw'.cells; go_simp; all_goals exact rfl)); simp only [Act.put, List.setIfInBounds_toArray, List.set_cons_succ, List.set_cons_zero])
    refine wpQuiet_nil ?_
    intro w3 hx3
    have HX3 := hide (HX2.out.trans hx3)
    clear hx3
    go_wp2
    go_ret2
    exact Ret.mk (by rw [HV.out]; rfl) HX3.out
  · have hdec : decide ((lowB n : Int) + d ≤ topB n) = true := decide_eq_true (by omega)
    have HV := hide (show compP n d = (0, 0) by rw [compP, if_neg hlt])
    clear hlt
    go_wp2_with fail
    refine wp_region_ext (by kernel_rfl) (by kernel_rfl) ?_
    iterate 4 (apply quiet_val; (focus rfl); (focus (intro w' hw'; have hk' := hw'.cells; go_simp; all_goals exact rfl)); simp only [Act.put, List.setIfInBounds_toArray, List.set_cons_succ, List.set_cons_zero])
    iterate 12 (go_big_quiet_want; apply quietK_val; (focus (intro w' hw'; have hk' := hw'.cells; go_simp; all_goals exact rfl)); simp only [Act.put, List.setIfInBounds_toArray, List.set_cons_succ, List.set_cons_zero]; go_big_quiet_on)
    (apply quiet_val; (focus rfl); (focus (intro w' hw'; have hk' := hw'.cells; go_simp; all_goals exact rfl)); simp only [Act.put, List.setIfInBounds_toArray, List.set_cons_succ, List.set_cons_zero])
    refine wpQuiet_nil ?_
    intro w2 hx2
    have HX2 := hide (HX1.out.trans hx2)
    clear hx2
    go_wp2
    go_ret2
    exact Ret.mk (by rw [HV.out]; rfl) HX2.out
end Go.Proofs.YtjpdebgejlfeaaaDoor
