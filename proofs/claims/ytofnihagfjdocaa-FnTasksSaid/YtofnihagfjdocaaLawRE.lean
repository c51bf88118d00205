/- The walks of RequiredEnergy and Overload, and of their exact laws. -/
import Derived.Test.YtofnihagfjdocaaEner
import Derived.Test.YtofnihagfjdocaaLawVT
namespace Go.Proofs.Ytofnihagfjdocaa
open Go.RowKit

theorem RequiredEnergyS_any (v : Value) (ts : List Tk) (l h : Int) (w : World) (hT : STasks w v ts) :
    Calls Try.prog 29 #[v, .int .i64 l, .int .i64 h] w (Ret (.int .i64 (enR ts l h)) w) := by
  by_cases h1 : vTks ts = true
  · have e1 : (vTks ts && inR 0 0 9) = true := by rw [h1]; rfl
    by_cases h2 : inR l 0 h = true
    · have hl : 0 ≤ l ∧ l ≤ h := by simpa [inR] using h2
      obtain ⟨hl1, hl2⟩ := hl
      by_cases h3 : 11 < h
      · have hm : enR ts l h = -1 := by rw [enR, if_neg (by simp [h3])]
        have HM := hide hm; clear hm
        go_enter Try.func29, Try.ntmps29
        go_wp2_with (first | (go_at_call 36; refine (validTasks_any _ ts _ _ hT).mono ?_; rintro e w1 ⟨rfl, hx1⟩; rw [e1]) | (go_at_call 64; refine (inRange_any _ _ _ _).mono ?_; rintro e w' ⟨rfl, rfl⟩))
        go_ret
        exact Ret.mk (ret_i HM.out.symm) hx1
      · have hm : enR ts l h = en ts l h ts.length := by rw [enR, if_pos (by simp [h1, h2]; omega)]
        have HM := hide hm; clear hm
        go_enter Try.func29, Try.ntmps29
        go_wp2_with (first | (go_at_call 36; refine (validTasks_any _ ts _ _ hT).mono ?_; rintro e w1 ⟨rfl, hx1⟩; rw [e1]) | (go_at_call 64; refine (inRange_any _ _ _ _).mono ?_; rintro e w' ⟨rfl, rfl⟩) | (go_at_call 65; refine (requiredEnergy_any _ ts _ _ _ (hT.ext hx1) h1 (by omega) (by omega) (by omega)).mono ?_; rintro e w2 ⟨rfl, hx2⟩))
        go_ret
        exact Ret.mk (ret_i HM.out.symm) (hx1.trans hx2)
    · have h2' : inR l 0 h = false := Bool.eq_false_iff.2 h2
      have hm : enR ts l h = -1 := by rw [enR, if_neg (by simp [h2'])]
      have HM := hide hm; clear hm h2
      go_enter Try.func29, Try.ntmps29
      go_wp2_with (first | (go_at_call 36; refine (validTasks_any _ ts _ _ hT).mono ?_; rintro e w1 ⟨rfl, hx1⟩; rw [e1]) | (go_at_call 64; refine (inRange_any _ _ _ _).mono ?_; rintro e w' ⟨rfl, rfl⟩))
      go_ret
      exact Ret.mk (ret_i HM.out.symm) hx1
  · have h1' : vTks ts = false := Bool.eq_false_iff.2 h1
    have e1 : (vTks ts && inR 0 0 9) = false := by rw [h1']; rfl
    have hm : enR ts l h = -1 := by rw [enR, if_neg (by simp [h1'])]
    have HM := hide hm; clear hm h1
    go_enter Try.func29, Try.ntmps29
    go_wp2_with (first | (go_at_call 36; refine (validTasks_any _ ts _ _ hT).mono ?_; rintro e w1 ⟨rfl, hx1⟩; rw [e1]) | (go_at_call 64; refine (inRange_any _ _ _ _).mono ?_; rintro e w' ⟨rfl, rfl⟩))
    go_ret
    exact Ret.mk (ret_i HM.out.symm) hx1

theorem RequiredEnergyI_any (v : Value) (ts : List Tk) (l h : Int) (w : World) (hT : STasks w v ts) :
    Calls Try.prog 28 #[v, .int .i64 l, .int .i64 h] w (Ret (.int .i64 (enR ts l h)) w) := by
  by_cases h1 : vTks ts = true
  · by_cases h2 : inR l 0 h = true
    · have hl : 0 ≤ l ∧ l ≤ h := by simpa [inR] using h2
      obtain ⟨hl1, hl2⟩ := hl
      by_cases h3 : 11 < h
      · have hm : enR ts l h = -1 := by rw [enR, if_neg (by simp [h3])]
        have HM := hide hm; clear hm
        go_enter Try.func28, Try.ntmps28
        go_wp2_with (first | (go_at_call 50; refine (tasksOk_any _ ts _ hT).mono ?_; rintro e w1 ⟨rfl, hx1⟩) | (go_at_call 62; refine (within_any _ _ _ _).mono ?_; rintro e w' ⟨rfl, rfl⟩))
        go_ret
        exact Ret.mk (ret_i HM.out.symm) hx1
      · have hm : enR ts l h = en ts l h ts.length := by rw [enR, if_pos (by simp [h1, h2]; omega)]
        have HM := hide hm; clear hm
        go_enter Try.func28, Try.ntmps28
        go_wp2_with (first | (go_at_call 50; refine (tasksOk_any _ ts _ hT).mono ?_; rintro e w1 ⟨rfl, hx1⟩) | (go_at_call 62; refine (within_any _ _ _ _).mono ?_; rintro e w' ⟨rfl, rfl⟩) | (go_at_call 63; refine (energy_any _ ts _ _ _ (hT.ext hx1) h1 (by omega) (by omega) (by omega)).mono ?_; rintro e w2 ⟨rfl, hx2⟩))
        go_ret
        exact Ret.mk (ret_i HM.out.symm) (hx1.trans hx2)
    · have h2' : inR l 0 h = false := Bool.eq_false_iff.2 h2
      have hm : enR ts l h = -1 := by rw [enR, if_neg (by simp [h2'])]
      have HM := hide hm; clear hm h2
      go_enter Try.func28, Try.ntmps28
      go_wp2_with (first | (go_at_call 50; refine (tasksOk_any _ ts _ hT).mono ?_; rintro e w1 ⟨rfl, hx1⟩) | (go_at_call 62; refine (within_any _ _ _ _).mono ?_; rintro e w' ⟨rfl, rfl⟩))
      go_ret
      exact Ret.mk (ret_i HM.out.symm) hx1
  · have h1' : vTks ts = false := Bool.eq_false_iff.2 h1
    have hm : enR ts l h = -1 := by rw [enR, if_neg (by simp [h1'])]
    have HM := hide hm; clear hm h1
    go_enter Try.func28, Try.ntmps28
    go_wp2_with (first | (go_at_call 50; refine (tasksOk_any _ ts _ hT).mono ?_; rintro e w1 ⟨rfl, hx1⟩) | (go_at_call 62; refine (within_any _ _ _ _).mono ?_; rintro e w' ⟨rfl, rfl⟩))
    go_ret
    exact Ret.mk (ret_i HM.out.symm) hx1

end Go.Proofs.Ytofnihagfjdocaa
