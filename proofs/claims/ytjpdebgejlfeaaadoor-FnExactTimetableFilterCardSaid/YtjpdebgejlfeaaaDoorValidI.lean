/- The walks of the program's own ValidTasks and of the law FnExactValidTasks. -/
import Derived.Test.YtjpdebgejlfeaaaDoorValidT
import Derived.Test.YtjpdebgejlfeaaaDoorEqT
import Derived.Test.YtjpdebgejlfeaaaDoorUtlA
namespace Go.Proofs.YtjpdebgejlfeaaaDoor
open Go.RowKit

theorem valid_any (s d m : Int) (w : World) :
    Calls Tryd.prog 64 #[.agg #[.int .i64 s, .int .i64 d, .int .i64 m]] w (Ret (.bool (vTk ⟨s, d, m⟩)) w) := by
  by_cases h1 : vDom s = true
  · by_cases h2 : (s == 0) = true
    · have h2' : (s != 0) = false := by simpa using h2
      go_enter Tryd.func64, Tryd.ntmps64
      go_wp2_with (first | (go_at_call 77; refine (ValidDomain_any _ _).mono ?_; rintro e w' ⟨rfl, rfl⟩) | (go_at_call 61; refine (within_any _ _ _ _).mono ?_; rintro e w' ⟨rfl, rfl⟩))
      go_ret
      exact Ret.mk (ret_b (vTk_no (.inr (.inl h2))).symm) ((Ext.refl w).alloc _)
    · have h2' : (s != 0) = true := by simpa using h2
      have h2'' : (s == 0) = false := by simpa using h2
      clear h2
      by_cases h3 : inR d 1 6 = true
      · go_enter Tryd.func64, Tryd.ntmps64
        go_wp2_with (first | (go_at_call 77; refine (ValidDomain_any _ _).mono ?_; rintro e w' ⟨rfl, rfl⟩) | (go_at_call 61; refine (within_any _ _ _ _).mono ?_; rintro e w' ⟨rfl, rfl⟩))
        go_ret
        exact Ret.mk (ret_b (by simp [vTk, *])) ((Ext.refl w).alloc _)
      · have h3' : inR d 1 6 = false := Bool.eq_false_iff.2 h3
        clear h3
        go_enter Tryd.func64, Tryd.ntmps64
        go_wp2_with (first | (go_at_call 77; refine (ValidDomain_any _ _).mono ?_; rintro e w' ⟨rfl, rfl⟩) | (go_at_call 61; refine (within_any _ _ _ _).mono ?_; rintro e w' ⟨rfl, rfl⟩))
        go_ret
        exact Ret.mk (ret_b (by simp [vTk, *])) ((Ext.refl w).alloc _)
  · have h1' : vDom s = false := Bool.eq_false_iff.2 h1
    clear h1
    go_enter Tryd.func64, Tryd.ntmps64
    go_wp2_with (first | (go_at_call 77; refine (ValidDomain_any _ _).mono ?_; rintro e w' ⟨rfl, rfl⟩) | (go_at_call 61; refine (within_any _ _ _ _).mono ?_; rintro e w' ⟨rfl, rfl⟩))
    go_ret
    exact Ret.mk (ret_b (vTk_no (.inl h1')).symm) ((Ext.refl w).alloc _)

theorem tasksOk1_any (s d m : Int) (w : World) :
    Calls Tryd.prog 63 #[.agg #[.int .i64 s, .int .i64 d, .int .i64 m]] w (Ret (.bool (!vTk ⟨s, d, m⟩)) w) := by
  go_enter Tryd.func63, Tryd.ntmps63
  go_wp2_with (go_at_call 64; refine (valid_any _ _ _ _).mono ?_; rintro e w' ⟨rfl, hx⟩)
  go_ret
  exact Ret.mk rfl (((Ext.refl w).alloc _).trans hx)

theorem vTks_any (ts : List Tk) : vTks ts = (inR ts.length 1 4 && !anyB (fun i => !vTk (tk0 ts i)) ts.length) := by
  unfold vTks
  rw [Bool.and_comm]
  congr 1
  by_cases h : ∀ j, j < ts.length → vTk (tk0 ts j) = true
  · rw [all_tk vTk h, anyB_false.2 (fun i hi => by simp [h i hi])]; rfl
  · have h' : ∃ j, j < ts.length ∧ vTk (tk0 ts j) = false := by
      simpa using h
    obtain ⟨j, hj, hf⟩ := h'
    rw [anyB_iff.2 ⟨j, hj, by simp [hf]⟩]
    simp only [Bool.not_true, List.all_eq_false]
    exact ⟨_, tk0_mem hj, by simp [hf]⟩

theorem tasksOk_any (v : Value) (ts : List Tk) (w : World) (hS : STasks w v ts) :
    Calls Tryd.prog 41 #[v] w (Ret (.bool (vTks ts)) w) := by
  have hS0 := hide hS
  obtain ⟨A, cp, rfl, hl, hc, hb, hcell⟩ := hS
  have hlen : ts.length ≤ 9223372036854775807 := by omega
  clear hb hcell
  by_cases h1 : inR ts.length 1 4 = true
  · go_enter Tryd.func41, Tryd.ntmps41
    go_wp2_with (first | (go_at_call 61; refine (within_any _ _ _ _).mono ?_; rintro e w' ⟨rfl, rfl⟩) | (go_at_call 62; refine (ContainsFuncT_any _ ts 63 #[] (fun i => !vTk (tk0 ts i)) _ hS0.out (callFunc_body Tryd.func63 (by decide) rfl) (hide fun i hi W hW => tasksOk1_any _ _ _ W)).mono ?_; rintro e w' ⟨rfl, hx⟩))
    go_ret
    exact Ret.mk (ret_b (by rw [vTks_any, h1]; rfl)) hx
  · have h1' : inR ts.length 1 4 = false := Bool.eq_false_iff.2 h1
    clear h1
    go_enter Tryd.func41, Tryd.ntmps41
    go_wp2_with (go_at_call 61; refine (within_any _ _ _ _).mono ?_; rintro e w' ⟨rfl, rfl⟩)
    go_ret
    exact Ret.mk (ret_b (by rw [vTks_any, h1']; rfl)) (Ext.refl _)

theorem ValidTasksI_any (v : Value) (ts : List Tk) (c : Int) (w : World) (hS : STasks w v ts) :
    Calls Tryd.prog 24 #[v, .int .i64 c] w (Ret (.bool (vTks ts && inR c 0 9)) w) := by
  by_cases h1 : vTks ts = true
  all_goals
    go_enter Tryd.func24, Tryd.ntmps24
    go_wp2_with (first | (go_at_call 41; refine (tasksOk_any _ ts _ hS).mono ?_; rintro e w' ⟨rfl, hx⟩) | (go_at_call 42; refine (capacityOk_any _ _).mono ?_; rintro e w' ⟨rfl, rfl⟩))
    go_ret
    exact Ret.mk (ret_b (by simp [h1])) hx

end Go.Proofs.YtjpdebgejlfeaaaDoor
