/- When the values of its variables satisfy a constraint: plain Lean. -/
import Derived.Test.YtgeflejmdlipmaaPrp
import Derived.Test.YtgeflejmdlipmaaConsA
namespace Go.Proofs.Ytgeflejmdlipmaa
open Go.RowKit

/-- The sum of the first k products. -/
def wsum (a x : List Int) : Nat → Int
  | 0 => 0
  | k + 1 => wsum a x k + at0 a k * at0 x k
/-- How many of the first k numbers are v. -/
def cntV (x : List Int) (v : Int) : Nat → Int
  | 0 => 0
  | k + 1 => if at0 x k == v then cntV x v k + 1 else cntV x v k
/-- Task i runs at time t. -/
def runsB (a x : List Int) (t : Int) (i : Nat) : Bool := decide (at0 x i ≤ t) && decide (t < at0 x i + at0 a i)
/-- What the first k tasks use at time t. -/
def loadT (a x : List Int) (n : Nat) (t : Int) : Nat → Int
  | 0 => 0
  | k + 1 => if runsB a x t k then loadT a x n t k + at0 a (n + k) else loadT a x n t k
def roomB (a : List Int) (b : Int) (x : List Int) : Bool := !anyB (fun t => decide (b < loadT a x x.length t x.length)) 15
/-- The state behind the first k values; below 0: none. -/
def runA (rs : List (List Int)) (x : List Int) : Nat → Int
  | 0 => 0
  | k + 1 => if runA rs x k < 0 then -1 else at0 (rw0 rs (runA rs x k).toNat) (at0 x k).toNat
def acceptB (rs : List (List Int)) (f x : List Int) : Bool := decide (0 ≤ runA rs x x.length) && hasI f (runA rs x x.length)
/-- Where the successors lead to from position 0. -/
def posC (x : List Int) : Nat → Int
  | 0 => 0
  | k + 1 => at0 x (posC x k).toNat
def cycB (x : List Int) : Bool := allR x 0 (x.length - 1) && ((posC x x.length == 0) && !anyB (fun k => decide (0 < k) && posC x k == 0) x.length)
/-- A constraint is satisfied by the values of its variables. -/
def satB (c : Con) (x : List Int) : Bool :=
  if c.kk = 1 then decide (wsum c.args x x.length ≤ c.bound)
  else if c.kk = 2 then at0 x 0 != at0 x 1 + at0 c.args 0
  else if c.kk = 3 then dst x
  else if c.kk = 4 then decide (at0 x 0 < c.args.length) && (at0 c.args (at0 x 0).toNat == at0 x 1)
  else if c.kk = 5 then anyB (fun i => decide (rw0 c.rows i = x)) c.rows.length
  else if c.kk = 6 then cntV x (at0 c.args 0) x.length == c.bound
  else if c.kk = 7 then roomB c.args c.bound x
  else if c.kk = 8 then acceptB c.rows c.args x
  else cycB x
theorem mul_bd {a x A X : Int} (h1 : -A ≤ a) (h2 : a ≤ A) (h3 : 0 ≤ x) (h4 : x ≤ X) (hA : 0 ≤ A) : -(A * X) ≤ a * x ∧ a * x ≤ A * X := by
  have e1 : a * x ≤ A * x := Int.mul_le_mul_of_nonneg_right h2 h3
  have e2 : A * x ≤ A * X := Int.mul_le_mul_of_nonneg_left h4 hA
  have e3 : -A * x ≤ a * x := Int.mul_le_mul_of_nonneg_right h1 h3
  have e4 : -A * x = -(A * x) := Int.neg_mul A x
  omega
theorem wsum_bd {a x : List Int} (ha : allR a (-9) 9 = true) (hx : ValL x) (hl : a.length = x.length) : ∀ k, k ≤ x.length → -(45 * (k : Int)) ≤ wsum a x k ∧ wsum a x k ≤ 45 * k
  | 0, _ => by simp [wsum]
  | k + 1, h => by
    have ih := wsum_bd ha hx hl k (by omega)
    have h1 := allR_at ha (k := k) (by omega)
    have h2 := hx k (by omega)
    have := mul_bd (A := 9) (X := 5) h1.1 h1.2 h2.1 h2.2 (by omega)
    rw [wsum]
    omega
theorem cntV_bd (x : List Int) (v : Int) : ∀ k, 0 ≤ cntV x v k ∧ cntV x v k ≤ k
  | 0 => by simp [cntV]
  | k + 1 => by
    have ih := cntV_bd x v k
    rw [cntV]
    split <;> omega
theorem loadT_bd {a x : List Int} {n : Nat} {t : Int} (ha : allR a 0 9 = true) (hl : a.length = 2 * n) : ∀ k, k ≤ n → 0 ≤ loadT a x n t k ∧ loadT a x n t k ≤ 9 * k
  | 0, _ => by simp [loadT]
  | k + 1, h => by
    have ih := loadT_bd (t := t) (x := x) ha hl k (by omega)
    have h1 := allR_at ha (k := n + k) (by omega)
    rw [loadT]
    split <;> omega
theorem posC_bd {x : List Int} (h : allR x 0 (x.length - 1) = true) (hp : 0 < x.length) : ∀ k, 0 ≤ posC x k ∧ posC x k < x.length
  | 0 => by simp [posC]; omega
  | k + 1 => by
    have ih := posC_bd h hp k
    have := allR_at h (k := (posC x k).toNat) (by omega)
    rw [posC]
    omega
theorem runA_neg {rs : List (List Int)} {x : List Int} {k : Nat} (h : runA rs x k < 0) : ∀ j, runA rs x (k + j) < 0
  | 0 => h
  | j + 1 => by
    rw [← Nat.add_assoc, runA, if_pos (runA_neg h j)]
    omega
theorem acceptB_no {rs : List (List Int)} {f x : List Int} {k : Nat} (hk : k ≤ x.length) (h : runA rs x k < 0) : acceptB rs f x = false := by
  have := runA_neg h (x.length - k)
  rw [show k + (x.length - k) = x.length by omega] at this
  unfold acceptB
  rw [decide_eq_false (by omega)]
  rfl
theorem roomB_no {a x : List Int} {b : Int} {t : Nat} (ht : t < 15) (h : b < loadT a x x.length t x.length) : roomB a b x = false := by
  unfold roomB
  rw [anyB_iff.2 ⟨t, ht, by simpa using h⟩]
  rfl
theorem roomB_yes {a x : List Int} {b : Int} (h : ∀ t, t < 15 → ¬ b < loadT a x x.length (t : Nat) x.length) : roomB a b x = true := by
  unfold roomB
  rw [anyB_false.2 fun i hi => by simpa using h i hi]
  rfl
/-- At the first return the positions decide. -/
theorem cycB_at {x : List Int} (hr : allR x 0 (x.length - 1) = true) {s : Nat} (h0 : 0 < s) (hs : s ≤ x.length) (hz : posC x s = 0) (hn : ∀ k, 0 < k → k < s → posC x k ≠ 0) : cycB x = decide (s = x.length) := by
  unfold cycB
  rw [hr]
  by_cases e : s = x.length
  · subst e
    rw [hz, anyB_false.2 fun k hk => by
      by_cases h0 : 0 < k
      · have := hn k h0 hk; simp [this]
      · simp [h0]]
    simp
  · rw [anyB_iff.2 ⟨s, by omega, by simp [h0, hz]⟩]
    simp [e]
theorem cycB_none {x : List Int} (hn : ∀ k, 0 < k → k ≤ x.length → posC x k ≠ 0) (h0 : 0 < x.length) : cycB x = false := by
  unfold cycB
  have := hn x.length h0 (Nat.le_refl _)
  simp [this]
theorem cycB_big {x : List Int} (hr : allR x 0 (x.length - 1) = false) : cycB x = false := by
  unfold cycB; rw [hr]; rfl
end Go.Proofs.Ytgeflejmdlipmaa
