/- The walks of RequiredEnergy and Overload, and of their exact laws. -/
import Derived.Test.YtljnclhjmdonjaaEner
import Derived.Test.YtljnclhjmdonjaaLawVT
namespace Go.Proofs.Ytljnclhjmdonjaa
open Go.RowKit

theorem RequiredEnergyS_any (v : Value) (ts : List Tk) (l h : Int) (w : World) (hT : STasks w v ts) :
    Calls Try.prog 22 #[v, .int .i64 l, .int .i64 h] w (Ret (.int .i64 (enR ts l h)) w) := by
  by_cases h1 : vTks ts = true
  · have e1 : (vTks ts && inR 0 0 9) = true := by rw [h1]; rfl
    by_cases h2 : inR l 0 h = true
    · have hl : 0 ≤ l ∧ l ≤ h := by simpa [inR] using h2
      obtain ⟨hl1, hl2⟩ := hl
      by_cases h3 : 11 < h
      · have hm : enR ts l h = -1 := by rw [enR, if_neg (by simp [h3])]
        have HM := hide hm; clear hm
        go_enter Try.func22, Try.ntmps22
        go_wp2_with (first | (go_at_call 26; refine (validTasks_any _ ts _ _ hT).mono ?_; rintro e w1 ⟨rfl, hx1⟩; rw [e1]) | (go_at_call 37; refine (inRange_any _ _ _ _).mono ?_; rintro e w' ⟨rfl, rfl⟩))
        go_ret
        exact Ret.mk (ret_i HM.out.symm) hx1
      · have hm : enR ts l h = en ts l h ts.length := by rw [enR, if_pos (by simp [h1, h2]; omega)]
        have HM := hide hm; clear hm
        go_enter Try.func22, Try.ntmps22
        go_wp2_with (first | (go_at_call 26; refine (validTasks_any _ ts _ _ hT).mono ?_; rintro e w1 ⟨rfl, hx1⟩; rw [e1]) | (go_at_call 37; refine (inRange_any _ _ _ _).mono ?_; rintro e w' ⟨rfl, rfl⟩) | (go_at_call 38; refine (requiredEnergy_any _ ts _ _ _ (hT.ext hx1) h1 (by omega) (by omega) (by omega)).mono ?_; rintro e w2 ⟨rfl, hx2⟩))
        go_ret
        exact Ret.mk (ret_i HM.out.symm) (hx1.trans hx2)
    · have h2' : inR l 0 h = false := Bool.eq_false_iff.2 h2
      have hm : enR ts l h = -1 := by rw [enR, if_neg (by simp [h2'])]
      have HM := hide hm; clear hm h2
      go_enter Try.func22, Try.ntmps22
      go_wp2_with (first | (go_at_call 26; refine (validTasks_any _ ts _ _ hT).mono ?_; rintro e w1 ⟨rfl, hx1⟩; rw [e1]) | (go_at_call 37; refine (inRange_any _ _ _ _).mono ?_; rintro e w' ⟨rfl, rfl⟩))
      go_ret
      exact Ret.mk (ret_i HM.out.symm) hx1
  · have h1' : vTks ts = false := Bool.eq_false_iff.2 h1
    have e1 : (vTks ts && inR 0 0 9) = false := by rw [h1']; rfl
    have hm : enR ts l h = -1 := by rw [enR, if_neg (by simp [h1'])]
    have HM := hide hm; clear hm h1
    go_enter Try.func22, Try.ntmps22
    go_wp2_with (first | (go_at_call 26; refine (validTasks_any _ ts _ _ hT).mono ?_; rintro e w1 ⟨rfl, hx1⟩; rw [e1]) | (go_at_call 37; refine (inRange_any _ _ _ _).mono ?_; rintro e w' ⟨rfl, rfl⟩))
    go_ret
    exact Ret.mk (ret_i HM.out.symm) hx1

theorem RequiredEnergyI_any (v : Value) (ts : List Tk) (l h : Int) (w : World) (hT : STasks w v ts) :
    Calls Try.prog 23 #[v, .int .i64 l, .int .i64 h] w (Ret (.int .i64 (enR ts l h)) w) := by
  by_cases h1 : vTks ts = true
  · by_cases h2 : inR l 0 h = true
    · have hl : 0 ≤ l ∧ l ≤ h := by simpa [inR] using h2
      obtain ⟨hl1, hl2⟩ := hl
      by_cases h3 : 11 < h
      · have hm : enR ts l h = -1 := by rw [enR, if_neg (by simp [h3])]
        have HM := hide hm; clear hm
        go_enter Try.func23, Try.ntmps23
        go_wp2_with (first | (go_at_call 28; refine (tasksOk_any _ ts _ hT).mono ?_; rintro e w1 ⟨rfl, hx1⟩) | (go_at_call 39; refine (within_any _ _ _ _).mono ?_; rintro e w' ⟨rfl, rfl⟩))
        go_ret
        exact Ret.mk (ret_i HM.out.symm) hx1
      · have hm : enR ts l h = en ts l h ts.length := by rw [enR, if_pos (by simp [h1, h2]; omega)]
        have HM := hide hm; clear hm
        go_enter Try.func23, Try.ntmps23
        go_wp2_with (first | (go_at_call 28; refine (tasksOk_any _ ts _ hT).mono ?_; rintro e w1 ⟨rfl, hx1⟩) | (go_at_call 39; refine (within_any _ _ _ _).mono ?_; rintro e w' ⟨rfl, rfl⟩) | (go_at_call 40; refine (energy_any _ ts _ _ _ (hT.ext hx1) h1 (by omega) (by omega) (by omega)).mono ?_; rintro e w2 ⟨rfl, hx2⟩))
        go_ret
        exact Ret.mk (ret_i HM.out.symm) (hx1.trans hx2)
    · have h2' : inR l 0 h = false := Bool.eq_false_iff.2 h2
      have hm : enR ts l h = -1 := by rw [enR, if_neg (by simp [h2'])]
      have HM := hide hm; clear hm h2
      go_enter Try.func23, Try.ntmps23
      go_wp2_with (first | (go_at_call 28; refine (tasksOk_any _ ts _ hT).mono ?_; rintro e w1 ⟨rfl, hx1⟩) | (go_at_call 39; refine (within_any _ _ _ _).mono ?_; rintro e w' ⟨rfl, rfl⟩))
      go_ret
      exact Ret.mk (ret_i HM.out.symm) hx1
  · have h1' : vTks ts = false := Bool.eq_false_iff.2 h1
    have hm : enR ts l h = -1 := by rw [enR, if_neg (by simp [h1'])]
    have HM := hide hm; clear hm h1
    go_enter Try.func23, Try.ntmps23
    go_wp2_with (first | (go_at_call 28; refine (tasksOk_any _ ts _ hT).mono ?_; rintro e w1 ⟨rfl, hx1⟩) | (go_at_call 39; refine (within_any _ _ _ _).mono ?_; rintro e w' ⟨rfl, rfl⟩))
    go_ret
    exact Ret.mk (ret_i HM.out.symm) hx1

set_option maxHeartbeats 1000000 in
theorem lawRequiredEnergy (v : Value) (l h : Int) (ts : List Tk) (w : World) (hT : STasks w v ts) (_hl : I64 l) (_hh : I64 h) :
    Calls Try.prog 6 #[v, .int .i64 l, .int .i64 h] w (Ret (.bool true) w) := by
  have Tb := hide hT.i64
  have hTb := hT.bytes
  by_cases hlt : (1048576 : Int) < ts.length
  · have e1 : left0 1048576 ts.length < 0 := by rw [left0_neg hlt]; decide
    go_enter Try.func6, Try.ntmps6
    go_wp2_with (go_at_call 8; refine (szTaskS_any _ ts _ _ hT (by omega) (by omega)).mono ?_; rintro e w' ⟨rfl, rfl⟩)
    go_ret
    exact Ret.mk rfl (Ext.refl _)
  · have e1 : 0 ≤ left0 1048576 ts.length := by rw [left0_pos (by omega)]; omega
    go_enter Try.func6, Try.ntmps6
    go_wp2_with (go_at_call 8; refine (szTaskS_any _ ts _ _ hT (by omega) (by omega)).mono ?_; rintro e w' ⟨rfl, rfl⟩)
    refine (toTaskS_any _ ts _ hT).mono ?_
    rintro e w1 ⟨b1, -, rfl, hr1, hx1⟩
    have T1 := STasks.of_row hr1 hTb Tb.out
    go_wp2_with fail
    refine (RequiredEnergyS_any _ ts _ _ _ T1).mono ?_
    rintro e w2 ⟨rfl, hx2⟩
    go_wp2_with fail
    refine (toTaskS_any _ ts _ (hT.ext (hx1.trans hx2))).mono ?_
    rintro e w3 ⟨b3, -, rfl, hr3, hx3⟩
    have T3 := STasks.of_row hr3 hTb Tb.out
    go_wp2_with fail
    refine (RequiredEnergyI_any _ ts _ _ _ T3).mono ?_
    rintro e w4 ⟨rfl, hx4⟩
    have hx04 := ((hx1.trans hx2).trans hx3).trans hx4
    go_wp2_with fail
    refine (toTaskS_any _ ts _ (hT.ext hx04)).mono ?_
    rintro e w5 ⟨b5, -, rfl, hr5, hx5⟩
    have T5 := STasks.of_row hr5 hTb Tb.out
    go_wp2_with fail
    refine (eqTaskS_same _ _ ts _ (T3.ext (hx4.trans hx5)) T5).mono ?_
    rintro e w6 ⟨rfl, hx6⟩
    go_wp2
    go_ret
    exact Ret.mk rfl ((hx04.trans hx5).trans hx6)
end Go.Proofs.Ytljnclhjmdonjaa
