/- The walk of the law FnExactValidTasks: it returns true, and memory only grows. -/
import Derived.Test.YtljnclhjmdonjaaValidI
namespace Go.Proofs.Ytljnclhjmdonjaa
open Go.RowKit

theorem left0_neg {n : Int} {len : Nat} (h : n < len) : left0 n len = -1 := by rw [left0, if_neg (by omega)]
theorem left0_pos {n : Int} {len : Nat} (h : (len : Int) ≤ n) : left0 n len = n - len := by rw [left0, if_pos h]

set_option maxHeartbeats 1000000 in
theorem lawValidTasks (v : Value) (ts : List Tk) (c : Int) (w : World) (hS : STasks w v ts) :
    Calls Try.prog 3 #[v, .int .i64 c] w (Ret (.bool true) w) := by
  have hb : ∀ i, i < ts.length → I64 (tkS ts i) ∧ I64 (tkD ts i) ∧ I64 (tkM ts i) := by
    obtain ⟨A, cp, -, -, -, hb, -⟩ := hS
    exact hb
  have hc : ts.length * 24 ≤ 140737488355328 := by
    obtain ⟨A, cp, -, h1, h2, -, -⟩ := hS
    omega
  have Hb := hide hb; clear hb
  by_cases hlt : (1048576 : Int) < ts.length
  · have e1 : left0 1048576 ts.length < 0 := by rw [left0_neg hlt]; decide
    go_enter Try.func3, Try.ntmps3
    go_wp2_with (go_at_call 8; refine (szTaskS_any _ ts _ _ hS (by omega) (by omega)).mono ?_; rintro e w' ⟨rfl, rfl⟩)
    go_ret
    exact Ret.mk rfl (Ext.refl _)
  · have e1 : 0 ≤ left0 1048576 ts.length := by rw [left0_pos (by omega)]; omega
    go_enter Try.func3, Try.ntmps3
    go_wp2_with (go_at_call 8; refine (szTaskS_any _ ts _ _ hS (by omega) (by omega)).mono ?_; rintro e w' ⟨rfl, rfl⟩)
    refine (toTaskS_any _ ts _ hS).mono ?_
    rintro e w1 ⟨b1, -, rfl, hr1, hx1⟩
    have S1 := STasks.of_row hr1 hc Hb.out
    go_wp2_with fail
    refine (ValidTasksS_any _ ts _ _ S1).mono ?_
    rintro e w2 ⟨rfl, hx2⟩
    go_wp2_with fail
    refine (toTaskS_any _ ts _ (hS.ext (hx1.trans hx2))).mono ?_
    rintro e w3 ⟨b3, -, rfl, hr3, hx3⟩
    have S3 := STasks.of_row hr3 hc Hb.out
    go_wp2_with fail
    refine (ValidTasksI_any _ ts _ _ S3).mono ?_
    rintro e w4 ⟨rfl, hx4⟩
    go_wp2_with fail
    refine (toTaskS_any _ ts _ (hS.ext (((hx1.trans hx2).trans hx3).trans hx4))).mono ?_
    rintro e w5 ⟨b5, -, rfl, hr5, hx5⟩
    have S5 := STasks.of_row hr5 hc Hb.out
    go_wp2_with fail
    refine (eqTaskS_same _ _ ts _ (S3.ext (hx4.trans hx5)) S5).mono ?_
    rintro e w6 ⟨rfl, hx6⟩
    go_wp2
    go_ret
    exact Ret.mk rfl (((((hx1.trans hx2).trans hx3).trans hx4).trans hx5).trans hx6)
end Go.Proofs.Ytljnclhjmdonjaa
