/- The walks of the range checks of numbers. -/
import Derived.Test.YtllgicpiddapeaaBase
namespace Go.Proofs.Ytllgicpiddapeaa
open Go.RowKit

theorem inRange_any (n l h : Int) (w : World) :
    Calls Try.prog 26 #[.int .i64 n, .int .i64 l, .int .i64 h] w fun e w' => e = .returned (.bool (inR n l h)) ∧ w = w' := by
  by_cases h1 : l ≤ n
  · go_enter Try.func26, Try.ntmps26
    go_wp2
    go_ret
    exact ⟨by simp [inR, h1], rfl⟩
  · have h2 : decide (l ≤ n) = false := by simpa using h1
    go_enter Try.func26, Try.ntmps26
    go_wp2
    go_ret
    exact ⟨by simp [inR, h2], rfl⟩

theorem within_any (n l h : Int) (w : World) :
    Calls Try.prog 57 #[.int .i64 n, .int .i64 l, .int .i64 h] w fun e w' => e = .returned (.bool (inR n l h)) ∧ w = w' := by
  by_cases h1 : l ≤ n
  · go_enter Try.func57, Try.ntmps57
    go_wp2
    go_ret
    exact ⟨by simp [inR, h1], rfl⟩
  · have h2 : decide (l ≤ n) = false := by simpa using h1
    go_enter Try.func57, Try.ntmps57
    go_wp2
    go_ret
    exact ⟨by simp [inR, h2], rfl⟩

theorem validDomain_any (d : Int) (w : World) :
    Calls Try.prog 24 #[.int .i64 d] w fun e w' => e = .returned (.bool (vDom d)) ∧ w = w' := by
  go_enter Try.func24, Try.ntmps24
  go_wp2_with (go_at_call 26; refine (inRange_any _ _ _ _).mono ?_; rintro e w' ⟨rfl, rfl⟩)
  go_ret
  exact ⟨rfl, rfl⟩

end Go.Proofs.Ytllgicpiddapeaa
