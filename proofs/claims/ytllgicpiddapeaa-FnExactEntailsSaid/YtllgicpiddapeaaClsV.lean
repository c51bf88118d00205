/- The order of literals, and whether literals are a clause: both sides. -/
import Derived.Test.YtllgicpiddapeaaLits
import Derived.Test.YtllgicpiddapeaaTail
import Derived.Test.YtllgicpiddapeaaRelB
namespace Go.Proofs.Ytllgicpiddapeaa
open Go.RowKit
attribute [local go_sem] evalOf

def cmpI (x y : Int) : Int := if x < y then -1 else if y < x then 1 else 0
def bN (b : Bool) : Int := if b then 1 else 0
def cmpL (a b : Lt) : Int := if cmpI a.x b.x ≠ 0 then cmpI a.x b.x else if cmpI a.v b.v ≠ 0 then cmpI a.v b.v else cmpI (bN a.n) (bN b.n)
theorem cmpI_zero {x y : Int} : cmpI x y = 0 ↔ x = y := by unfold cmpI; split <;> (try split) <;> omega
theorem cmpI_neg {x y : Int} : cmpI x y < 0 ↔ x < y := by unfold cmpI; split <;> (try split) <;> omega
theorem cmpI_bd (x y : Int) : -1 ≤ cmpI x y ∧ cmpI x y ≤ 1 := by unfold cmpI; split <;> (try split) <;> omega
theorem cmpL_ls (a b : Lt) : decide (0 ≤ cmpL a b) = !lsB a b := by
  unfold cmpL lsB
  by_cases h1 : a.x = b.x
  · rw [if_neg (by simp [cmpI_zero, h1])]
    by_cases h2 : a.v = b.v
    · rw [if_neg (by simp [cmpI_zero, h2])]
      simp only [h1, h2, decide_true, Bool.true_and]
      have e : ∀ x y : Bool, decide (0 ≤ cmpI (bN x) (bN y)) = !(!x && y) := by decide
      rw [e]; simp
    · rw [if_pos (by rw [ne_eq, cmpI_zero]; exact h2)]
      have := cmpI_neg (x := a.v) (y := b.v)
      by_cases h3 : a.v < b.v
      · have h4 := this.2 h3; simp [h1, h2, h3]; omega
      · have h4 : ¬ cmpI a.v b.v < 0 := fun h => h3 (this.1 h)
        simp [h1, h2, h3]; omega
  · rw [if_pos (by rw [ne_eq, cmpI_zero]; exact h1)]
    have := cmpI_neg (x := a.x) (y := b.x)
    by_cases h3 : a.x < b.x
    · have h4 := this.2 h3; simp [h1, h3]; omega
    · have h4 : ¬ cmpI a.x b.x < 0 := fun h => h3 (this.1 h)
      simp [h1, h3]; omega
end Go.Proofs.Ytllgicpiddapeaa
