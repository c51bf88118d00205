/- The walks of the functions that decide whether tasks are valid. -/
import Derived.Test.YtjpdebgejlfeaaaDoorUtlA
import Derived.Test.YtjpdebgejlfeaaaDoorLwsA
namespace Go.Proofs.YtjpdebgejlfeaaaDoor
open Go.RowKit

theorem capacityOk_any (n : Int) (w : World) :
    Calls Tryd.prog 42 #[.int .i64 n] w fun e w' => e = .returned (.bool (inR n 0 9)) ∧ w = w' := by
  go_enter Tryd.func42, Tryd.ntmps42
  go_wp2_with (go_at_call 61; refine (within_any _ _ _ _).mono ?_; rintro e w' ⟨rfl, rfl⟩)
  go_ret
  exact ⟨rfl, rfl⟩

set_option maxHeartbeats 1000000 in
theorem validTasks_any (v : Value) (ts : List Tk) (c : Int) (w : World) (hS : STasks w v ts) :
    Calls Tryd.prog 19 #[v, .int .i64 c] w (Ret (.bool (vTks ts && inR c 0 9)) w) := by
  have hS0 := hS
  obtain ⟨A, cp, rfl, hl, hc, hb, hcell⟩ := hS
  have hlen : ts.length ≤ 9223372036854775807 := by omega
  have Hc := hide hcell; clear hcell
  have Hb := hide hb; clear hb
  go_enter Tryd.func19, Tryd.ntmps19
  go_wp2
  go_loopw [5] (fun i wr => ∃ k : Nat, k ≤ ts.length ∧ i = .int .i64 k ∧ (∀ j, j < k → vTk (tk0 ts j) = true) ∧ Ext w wr) (fun i _ => ts.length - (intOf i).toNat)
  case atStart => exact ⟨0, Nat.zero_le _, rfl, fun j hj => absurd hj (by omega), Ext.refl w⟩
  case round =>
    obtain ⟨k, hk, rfl, hv, hx⟩ := hrel
    have Hv := hide hv; clear hv
    by_cases hlt : k < ts.length
    · obtain ⟨b, off, rfl, hbl, hcs⟩ := Hc.out (by omega)
      obtain ⟨g1, g2, g3⟩ := hcs k hlt
      have f1 := (hx.cell (p := ⟨b, off + k * 3, none⟩) hbl).trans g1
      have f2 := (hx.cell (p := ⟨b, off + k * 3 + 1, none⟩) hbl).trans g2
      have f3 := (hx.cell (p := ⟨b, off + k * 3 + 2, none⟩) hbl).trans g3
      clear hcs g1 g2 g3
      by_cases h1 : vDom (tkS ts k) = true
      · by_cases h2 : (tkS ts k == 0) = true
        · go_wp2_with (first | (go_at_call 36; refine (validDomain_any _ _).mono ?_; rintro e w' ⟨rfl, rfl⟩) | (go_at_call 37; refine (inRange_any _ _ _ _).mono ?_; rintro e w' ⟨rfl, rfl⟩))
          go_ret
          exact Ret.mk (by rw [vTks_false hlt (vTk_no (.inr (.inl h2)))]; rfl) (hx.alloc _)
        · by_cases h3 : inR (tkD ts k) 1 6 = true
          · by_cases h4 : inR (tkM ts k) 0 9 = true
            · go_wp2_with (first | (go_at_call 36; refine (validDomain_any _ _).mono ?_; rintro e w' ⟨rfl, rfl⟩) | (go_at_call 37; refine (inRange_any _ _ _ _).mono ?_; rintro e w' ⟨rfl, rfl⟩))
              go_roundw
              case rel => exact ⟨k + 1, by omega, by go_num, upto_succ Hv.out (vTk_of h1 (Bool.eq_false_iff.2 h2) h3 h4), hx.alloc _⟩
              case measure => simp [intOf]; omega
            · go_wp2_with (first | (go_at_call 36; refine (validDomain_any _ _).mono ?_; rintro e w' ⟨rfl, rfl⟩) | (go_at_call 37; refine (inRange_any _ _ _ _).mono ?_; rintro e w' ⟨rfl, rfl⟩))
              go_ret
              exact Ret.mk (by rw [vTks_false hlt (vTk_no (.inr (.inr (.inr (Bool.eq_false_iff.2 h4)))))]; rfl) (hx.alloc _)
          · go_wp2_with (first | (go_at_call 36; refine (validDomain_any _ _).mono ?_; rintro e w' ⟨rfl, rfl⟩) | (go_at_call 37; refine (inRange_any _ _ _ _).mono ?_; rintro e w' ⟨rfl, rfl⟩))
            go_ret
            exact Ret.mk (by rw [vTks_false hlt (vTk_no (.inr (.inr (.inl (Bool.eq_false_iff.2 h3)))))]; rfl) (hx.alloc _)
      · go_wp2_with (first | (go_at_call 36; refine (validDomain_any _ _).mono ?_; rintro e w' ⟨rfl, rfl⟩) | (go_at_call 37; refine (inRange_any _ _ _ _).mono ?_; rintro e w' ⟨rfl, rfl⟩))
        go_ret
        exact Ret.mk (by rw [vTks_false hlt (vTk_no (.inl (Bool.eq_false_iff.2 h1)))]; rfl) (hx.alloc _)
    · have hkl : k = ts.length := by omega
      have Hkl := hide hkl; clear hkl
      go_wp2_with (first | (go_at_call 37; refine (inRange_any _ _ _ _).mono ?_; rintro e w' ⟨rfl, rfl⟩))
      all_goals go_ret
      all_goals refine Ret.mk ?_ hx
      all_goals rw [vTks_all (fun j hj => Hv.out j (by rw [Hkl.out]; exact hj))]
      all_goals simp [*]
end Go.Proofs.YtjpdebgejlfeaaaDoor
/- The walk of the comparison of two slices of tasks. -/
namespace Go.Proofs.YtjpdebgejlfeaaaDoor
open Go.RowKit

def eqTk (a b : Tk) : Bool := decide (a.s = b.s) && decide (a.d = b.d) && decide (a.m = b.m)
theorem eqTk_self (a : Tk) : eqTk a a = true := by simp [eqTk]

theorem eqTask_same (s d m : Int) (w : World) :
    Calls Tryd.prog 31 #[.agg #[.int .i64 s, .int .i64 d, .int .i64 m], .agg #[.int .i64 s, .int .i64 d, .int .i64 m]] w (Ret (.bool true) w) :=
  (eqTask_any s d m s d m w).mono fun _ _ h => ⟨by simpa using h.1, h.2⟩
set_option maxHeartbeats 1000000 in
/-- Two slices that read as the same tasks are found equal. -/
theorem eqTaskS_same (v v' : Value) (ts : List Tk) (w : World) (hS : STasks w v ts) (hS' : STasks w v' ts) :
    Calls Tryd.prog 10 #[v, v'] w (Ret (.bool true) w) := by
  obtain ⟨A, cp, rfl, hl, hc, hb, hcell⟩ := hS
  obtain ⟨A', cp', rfl, hl', hc', hb', hcell'⟩ := hS'
  have hlen : ts.length ≤ 9223372036854775807 := by omega
  have Hc := hide hcell; clear hcell
  have Hb := hide hb; clear hb
  have Hc' := hide hcell'; clear hcell'
  have Hb' := hide hb'; clear hb'
  go_enter Tryd.func10, Tryd.ntmps10
  go_wp2
  go_loopw [5] (fun i wr => ∃ k : Nat, k ≤ ts.length ∧ i = .int .i64 k ∧ Ext w wr) (fun i _ => ts.length - (intOf i).toNat)
  case atStart => exact ⟨0, Nat.zero_le _, rfl, Ext.refl w⟩
  case round =>
    obtain ⟨k, hk, rfl, hxr⟩ := hrel
    by_cases hlt : k < ts.length
    · obtain ⟨b, off, rfl, hbl, hcs⟩ := Hc.out (by omega)
      obtain ⟨b', off', rfl, hbl', hcs'⟩ := Hc'.out (by omega)
      obtain ⟨g1, g2, g3⟩ := hcs k hlt
      obtain ⟨g1', g2', g3'⟩ := hcs' k hlt
      have f1 := (hxr.cell (p := ⟨b, off + k * 3, none⟩) hbl).trans g1
      have f2 := (hxr.cell (p := ⟨b, off + k * 3 + 1, none⟩) hbl).trans g2
      have f3 := (hxr.cell (p := ⟨b, off + k * 3 + 2, none⟩) hbl).trans g3
      have f1' := (hxr.cell (p := ⟨b', off' + k * 3, none⟩) hbl').trans g1'
      have f2' := (hxr.cell (p := ⟨b', off' + k * 3 + 1, none⟩) hbl').trans g2'
      have f3' := (hxr.cell (p := ⟨b', off' + k * 3 + 2, none⟩) hbl').trans g3'
      have hbr : b < wr.heap.size := Nat.lt_of_lt_of_le hbl hxr.size
      have hbr' : b' < wr.heap.size := Nat.lt_of_lt_of_le hbl' hxr.size
      clear hcs g1 g2 g3 hcs' g1' g2' g3'
      go_wp2
      refine wp_region_ext (by kernel_rfl) (by kernel_rfl) ?_
      iterate 8 (apply quiet_val; (focus rfl); (focus (intro w' hw'; have hk' := hw'.cells; go_simp; all_goals exact rfl)); simp only [Act.put, List.setIfInBounds_toArray, List.set_cons_succ, List.set_cons_zero])
      apply quiet_call; (focus rfl); (focus (intro w' hw'; go_simp; all_goals (first | exact rfl | (apply And.intro <;> exact rfl))))
      · exact fun w' hw' => Ret.quiet (eqTask_same _ _ _ _) hw'
      (simp only [Act.put, List.setIfInBounds_toArray, List.set_cons_succ, List.set_cons_zero])
      (apply quiet_val; (focus rfl); (focus (intro w' hw'; have hk' := hw'.cells; go_simp; all_goals exact rfl)); simp only [Act.put, List.setIfInBounds_toArray, List.set_cons_succ, List.set_cons_zero])
      refine wpQuiet_nil ?_
      intro w2 hx2
      go_wp2
      go_roundw
      case rel => exact ⟨k + 1, by omega, by go_num, hxr.trans hx2⟩
      case measure => simp [intOf]; omega
    · go_wp2
      go_ret
      exact Ret.mk rfl hxr
end Go.Proofs.YtjpdebgejlfeaaaDoor
/- The walks of the program's own ValidTasks and of the law FnExactValidTasks. -/
namespace Go.Proofs.YtjpdebgejlfeaaaDoor
open Go.RowKit

theorem valid_any (s d m : Int) (w : World) :
    Calls Tryd.prog 64 #[.agg #[.int .i64 s, .int .i64 d, .int .i64 m]] w (Ret (.bool (vTk ⟨s, d, m⟩)) w) := by
  by_cases h1 : vDom s = true
  · by_cases h2 : (s == 0) = true
    · have h2' : (s != 0) = false := by simpa using h2
      go_enter Tryd.func64, Tryd.ntmps64
      go_wp2_with (first | (go_at_call 77; refine (ValidDomain_any _ _).mono ?_; rintro e w' ⟨rfl, rfl⟩) | (go_at_call 61; refine (within_any _ _ _ _).mono ?_; rintro e w' ⟨rfl, rfl⟩))
      go_ret
      exact Ret.mk (ret_b (vTk_no (.inr (.inl h2))).symm) ((Ext.refl w).alloc _)
    · have h2' : (s != 0) = true := by simpa using h2
      have h2'' : (s == 0) = false := by simpa using h2
      clear h2
      by_cases h3 : inR d 1 6 = true
      · go_enter Tryd.func64, Tryd.ntmps64
        go_wp2_with (first | (go_at_call 77; refine (ValidDomain_any _ _).mono ?_; rintro e w' ⟨rfl, rfl⟩) | (go_at_call 61; refine (within_any _ _ _ _).mono ?_; rintro e w' ⟨rfl, rfl⟩))
        go_ret
        exact Ret.mk (ret_b (by simp [vTk, *])) ((Ext.refl w).alloc _)
      · have h3' : inR d 1 6 = false := Bool.eq_false_iff.2 h3
        clear h3
        go_enter Tryd.func64, Tryd.ntmps64
        go_wp2_with (first | (go_at_call 77; refine (ValidDomain_any _ _).mono ?_; rintro e w' ⟨rfl, rfl⟩) | (go_at_call 61; refine (within_any _ _ _ _).mono ?_; rintro e w' ⟨rfl, rfl⟩))
        go_ret
        exact Ret.mk (ret_b (by simp [vTk, *])) ((Ext.refl w).alloc _)
  · have h1' : vDom s = false := Bool.eq_false_iff.2 h1
    clear h1
    go_enter Tryd.func64, Tryd.ntmps64
    go_wp2_with (first | (go_at_call 77; refine (ValidDomain_any _ _).mono ?_; rintro e w' ⟨rfl, rfl⟩) | (go_at_call 61; refine (within_any _ _ _ _).mono ?_; rintro e w' ⟨rfl, rfl⟩))
    go_ret
    exact Ret.mk (ret_b (vTk_no (.inl h1')).symm) ((Ext.refl w).alloc _)

theorem tasksOk1_any (s d m : Int) (w : World) :
    Calls Tryd.prog 63 #[.agg #[.int .i64 s, .int .i64 d, .int .i64 m]] w (Ret (.bool (!vTk ⟨s, d, m⟩)) w) := by
  go_enter Tryd.func63, Tryd.ntmps63
  go_wp2_with (go_at_call 64; refine (valid_any _ _ _ _).mono ?_; rintro e w' ⟨rfl, hx⟩)
  go_ret
  exact Ret.mk rfl (((Ext.refl w).alloc _).trans hx)

theorem vTks_any (ts : List Tk) : vTks ts = (inR ts.length 1 4 && !anyB (fun i => !vTk (tk0 ts i)) ts.length) := by
  unfold vTks
  rw [Bool.and_comm]
  congr 1
  by_cases h : ∀ j, j < ts.length → vTk (tk0 ts j) = true
  · rw [all_tk vTk h, anyB_false.2 (fun i hi => by simp [h i hi])]; rfl
  · have h' : ∃ j, j < ts.length ∧ vTk (tk0 ts j) = false := by
      simpa using h
    obtain ⟨j, hj, hf⟩ := h'
    rw [anyB_iff.2 ⟨j, hj, by simp [hf]⟩]
    simp only [Bool.not_true, List.all_eq_false]
    exact ⟨_, tk0_mem hj, by simp [hf]⟩

theorem tasksOk_any (v : Value) (ts : List Tk) (w : World) (hS : STasks w v ts) :
    Calls Tryd.prog 41 #[v] w (Ret (.bool (vTks ts)) w) := by
  have hS0 := hide hS
  obtain ⟨A, cp, rfl, hl, hc, hb, hcell⟩ := hS
  have hlen : ts.length ≤ 9223372036854775807 := by omega
  clear hb hcell
  by_cases h1 : inR ts.length 1 4 = true
  · go_enter Tryd.func41, Tryd.ntmps41
    go_wp2_with (first | (go_at_call 61; refine (within_any _ _ _ _).mono ?_; rintro e w' ⟨rfl, rfl⟩) | (go_at_call 62; refine (ContainsFuncT_any _ ts 63 #[] (fun i => !vTk (tk0 ts i)) _ hS0.out (callFunc_body Tryd.func63 (by decide) rfl) (hide fun i hi W hW => tasksOk1_any _ _ _ W)).mono ?_; rintro e w' ⟨rfl, hx⟩))
    go_ret
    exact Ret.mk (ret_b (by rw [vTks_any, h1]; rfl)) hx
  · have h1' : inR ts.length 1 4 = false := Bool.eq_false_iff.2 h1
    clear h1
    go_enter Tryd.func41, Tryd.ntmps41
    go_wp2_with (go_at_call 61; refine (within_any _ _ _ _).mono ?_; rintro e w' ⟨rfl, rfl⟩)
    go_ret
    exact Ret.mk (ret_b (by rw [vTks_any, h1']; rfl)) (Ext.refl _)

theorem ValidTasksI_any (v : Value) (ts : List Tk) (c : Int) (w : World) (hS : STasks w v ts) :
    Calls Tryd.prog 24 #[v, .int .i64 c] w (Ret (.bool (vTks ts && inR c 0 9)) w) := by
  by_cases h1 : vTks ts = true
  all_goals
    go_enter Tryd.func24, Tryd.ntmps24
    go_wp2_with (first | (go_at_call 41; refine (tasksOk_any _ ts _ hS).mono ?_; rintro e w' ⟨rfl, hx⟩) | (go_at_call 42; refine (capacityOk_any _ _).mono ?_; rintro e w' ⟨rfl, rfl⟩))
    go_ret
    exact Ret.mk (ret_b (by simp [h1])) hx

end Go.Proofs.YtjpdebgejlfeaaaDoor
