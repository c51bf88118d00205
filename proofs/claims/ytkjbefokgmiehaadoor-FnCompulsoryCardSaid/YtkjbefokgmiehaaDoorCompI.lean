/- The walk of CompulsoryPart in the program. -/
import Derived.Test.YtkjbefokgmiehaaDoorLeast
import Derived.Test.YtkjbefokgmiehaaDoorValid1
namespace Go.Proofs.YtkjbefokgmiehaaDoor
open Go.RowKit

theorem TzTab.ext {w w' : World} (h : TzTab w) (hb : 1 < w.heap.size) (hx : Ext w w') : TzTab w' := by
  obtain ⟨t0, t1, t2, t3, t4, t5⟩ := h
  exact ⟨(hx.cells _ _ hb).trans t0, (hx.cells _ _ hb).trans t1, (hx.cells _ _ hb).trans t2, (hx.cells _ _ hb).trans t3, (hx.cells _ _ hb).trans t4, (hx.cells _ _ hb).trans t5⟩
/-- The compulsory part of a task. -/
def compB (t : Tk) : Int × Int := if vTk t && decide ((topB t.s.toNat : Int) < lowB t.s.toNat + t.d) then (topB t.s.toNat, lowB t.s.toNat + t.d) else (0, 0)
def pairV (p : Int × Int) : Value := .tuple #[.int .i64 p.1, .int .i64 p.2]
set_option maxHeartbeats 2000000 in
theorem CompulsoryPartI_any (s d m : Int) (w : World) (hT : TzTab w) (hb : 1 < w.heap.size) :
    Calls Tryd.prog 5 #[.agg #[.int .i64 s, .int .i64 d, .int .i64 m]] w (Ret (pairV (compB ⟨s, d, m⟩)) w) := by
  have HT := hide hT; clear hT
  have hx0 := (Ext.refl w).alloc (.cells #[.int .i64 s, .int .i64 d, .int .i64 m] 24)
  by_cases hv : vTk ⟨s, d, m⟩ = true
  · have hq : 1 ≤ s ∧ s ≤ 63 ∧ 1 ≤ d ∧ d ≤ 6 := by simp [vTk, vDom, inR] at hv; omega
    obtain ⟨q1, q2, q3, q4⟩ := hq
    obtain ⟨n, rfl⟩ : ∃ n : Nat, s = n := ⟨s.toNat, by omega⟩
    have hl : lowB n < 6 := by
      rcases dom_cases (d := n) (by omega) (by omega) with rfl | rfl | rfl | rfl | rfl | rfl | rfl | rfl | rfl | rfl | rfl | rfl | rfl | rfl | rfl | rfl | rfl | rfl | rfl | rfl | rfl | rfl | rfl | rfl | rfl | rfl | rfl | rfl | rfl | rfl | rfl | rfl | rfl | rfl | rfl | rfl | rfl | rfl | rfl | rfl | rfl | rfl | rfl | rfl | rfl | rfl | rfl | rfl | rfl | rfl | rfl | rfl | rfl | rfl | rfl | rfl | rfl | rfl | rfl | rfl | rfl | rfl | rfl <;> decide
    have HV := hide hv
    go_enter Tryd.func5, Tryd.ntmps5
    go_wp2_with fail
    refine (valid_any _ _ _ _).mono ?_
    rintro e w1 ⟨rfl, hx1⟩
    rw [hv]
    have c0 : w1.cell? ⟨w.heap.size, 0, none⟩ = some (.int .i64 n) := (hx1.cells _ _ (by simp)).trans (by go_simp)
    have c1 : w1.cell? ⟨w.heap.size, 1, none⟩ = some (.int .i64 d) := (hx1.cells _ _ (by simp)).trans (by go_simp)
    have hbw : w.heap.size < w1.heap.size := Nat.lt_of_lt_of_le (by simp) hx1.size
    have hx := hx0.trans hx1
    have HT1 := hide (HT.out.ext hb hx)
    have hb1 := Nat.lt_of_lt_of_le hb hx.size
    clear hv hx0 hx1
    go_wp2_with fail
    refine wp_region_ext (by kernel_rfl) (by kernel_rfl) ?_
    iterate 2 (apply quiet_val; (focus rfl); (focus (intro w' hw'; have hk' := hw'.cells; go_simp; all_goals exact rfl)); simp only [Act.put, List.setIfInBounds_toArray, List.set_cons_succ, List.set_cons_zero])
    apply quiet_call; (focus rfl); (focus (intro w' hw'; go_simp; all_goals (first | exact rfl | (apply And.intro <;> exact rfl))))
    · exact fun w' hw' => same_quiet (most_any n (by omega) (by omega) _) hw'
    (simp only [Act.put, List.setIfInBounds_toArray, List.set_cons_succ, List.set_cons_zero])
    iterate 2 (apply quiet_val; (focus rfl); (focus (intro w' hw'; have hk' := hw'.cells; go_simp; all_goals exact rfl)); simp only [Act.put, List.setIfInBounds_toArray, List.set_cons_succ, List.set_cons_zero])
    apply quiet_call; (focus rfl); (focus (intro w' hw'; go_simp; all_goals (first | exact rfl | (apply And.intro <;> exact rfl))))
    · exact fun w' hw' => same_quiet (least_any n (by omega) (by omega) _ (HT1.out.ext hb1 hw')) hw'
    (simp only [Act.put, List.setIfInBounds_toArray, List.set_cons_succ, List.set_cons_zero])
    have hwr := IntWalk.i64_in ((lowB n : Int) + d) (by omega)
    iterate 5 (apply quiet_val; (focus rfl); (focus (intro w' hw'; have hk' := hw'.cells; go_simp; all_goals exact rfl)); simp only [Act.put, List.setIfInBounds_toArray, List.set_cons_succ, List.set_cons_zero])
    clear hwr
    refine wpQuiet_nil ?_
    intro w2 hx2
    by_cases hlt : (topB n : Int) < lowB n + d
    · have hd : decide ((lowB n : Int) + d ≤ topB n) = false := decide_eq_false (by omega)
      go_wp2
      go_ret2
      exact Ret.mk (by rw [compB, HV.out, Int.toNat_natCast, decide_eq_true hlt]; rfl) (hx.trans hx2)
    · have hd : decide ((lowB n : Int) + d ≤ topB n) = true := decide_eq_true (by omega)
      go_wp2
      go_ret2
      exact Ret.mk (by rw [compB, Int.toNat_natCast, decide_eq_false (show ¬ ((topB n : Int) < lowB n + d) by omega), Bool.and_false]; rfl) (hx.trans hx2)
  · have hv' : vTk ⟨s, d, m⟩ = false := Bool.eq_false_iff.2 hv
    have HV := hide hv'
    clear hv
    go_enter Tryd.func5, Tryd.ntmps5
    go_wp2_with fail
    refine (valid_any _ _ _ _).mono ?_
    rintro e w1 ⟨rfl, hx1⟩
    rw [hv']
    go_wp2
    go_ret2
    exact Ret.mk (by rw [compB, HV.out]; rfl) (hx0.trans hx1)
end Go.Proofs.YtkjbefokgmiehaaDoor
