/- The walks of the range checks of numbers. -/
import Derived.Test.YtbdialoimbooeaaBase
namespace Go.Proofs.Ytbdialoimbooeaa
open Go.RowKit

theorem inRange_any (n l h : Int) (w : World) :
    Calls Try.prog 60 #[.int .i64 n, .int .i64 l, .int .i64 h] w fun e w' => e = .returned (.bool (inR n l h)) ∧ w = w' := by
  by_cases h1 : l ≤ n
  · go_enter Try.func60, Try.ntmps60
    go_wp2
    go_ret
    exact ⟨by simp [inR, h1], rfl⟩
  · have h2 : decide (l ≤ n) = false := by simpa using h1
    go_enter Try.func60, Try.ntmps60
    go_wp2
    go_ret
    exact ⟨by simp [inR, h2], rfl⟩

theorem within_any (n l h : Int) (w : World) :
    Calls Try.prog 51 #[.int .i64 n, .int .i64 l, .int .i64 h] w fun e w' => e = .returned (.bool (inR n l h)) ∧ w = w' := by
  by_cases h1 : l ≤ n
  · go_enter Try.func51, Try.ntmps51
    go_wp2
    go_ret
    exact ⟨by simp [inR, h1], rfl⟩
  · have h2 : decide (l ≤ n) = false := by simpa using h1
    go_enter Try.func51, Try.ntmps51
    go_wp2
    go_ret
    exact ⟨by simp [inR, h2], rfl⟩

end Go.Proofs.Ytbdialoimbooeaa
