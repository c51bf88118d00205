/- The walks of the range checks of numbers. -/
import Derived.Test.YtllgicpiddapeaaGreatDoorBase
namespace Go.Proofs.YtllgicpiddapeaaGreatDoor
open Go.RowKit

theorem inRange_any (n l h : Int) (w : World) :
    Calls Tryz.prog 42 #[.int .i64 n, .int .i64 l, .int .i64 h] w fun e w' => e = .returned (.bool (inR n l h)) ∧ w = w' := by
  by_cases h1 : l ≤ n
  · go_enter Tryz.func42, Tryz.ntmps42
    go_wp2
    go_ret
    exact ⟨by simp [inR, h1], rfl⟩
  · have h2 : decide (l ≤ n) = false := by simpa using h1
    go_enter Tryz.func42, Tryz.ntmps42
    go_wp2
    go_ret
    exact ⟨by simp [inR, h2], rfl⟩

theorem within_any (n l h : Int) (w : World) :
    Calls Tryz.prog 82 #[.int .i64 n, .int .i64 l, .int .i64 h] w fun e w' => e = .returned (.bool (inR n l h)) ∧ w = w' := by
  by_cases h1 : l ≤ n
  · go_enter Tryz.func82, Tryz.ntmps82
    go_wp2
    go_ret
    exact ⟨by simp [inR, h1], rfl⟩
  · have h2 : decide (l ≤ n) = false := by simpa using h1
    go_enter Tryz.func82, Tryz.ntmps82
    go_wp2
    go_ret
    exact ⟨by simp [inR, h2], rfl⟩

theorem validDomain_any (d : Int) (w : World) :
    Calls Tryz.prog 40 #[.int .i64 d] w fun e w' => e = .returned (.bool (vDom d)) ∧ w = w' := by
  go_enter Tryz.func40, Tryz.ntmps40
  go_wp2_with (go_at_call 42; refine (inRange_any _ _ _ _).mono ?_; rintro e w' ⟨rfl, rfl⟩)
  go_ret
  exact ⟨rfl, rfl⟩

end Go.Proofs.YtllgicpiddapeaaGreatDoor
