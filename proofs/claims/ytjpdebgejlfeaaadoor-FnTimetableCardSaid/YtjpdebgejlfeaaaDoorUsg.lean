/- The walks of Usage, in the reference and in the program. -/
import Derived.Test.YtjpdebgejlfeaaaDoorMksp
import Derived.Test.YtjpdebgejlfeaaaDoorLwsA
import Derived.Test.YtjpdebgejlfeaaaDoorTail
namespace Go.Proofs.YtjpdebgejlfeaaaDoor
open Go.RowKit

/-- The demand of the first k tasks at time t. -/
def us (ts : List Tk) (xs : List Int) : Nat → Nat → Int
  | 0, _ => 0
  | k + 1, t => us ts xs k t + (if at0 xs k ≤ (t : Int) ∧ (t : Int) < at0 xs k + tkD ts k then tkM ts k else 0)
/-- The demand of the first k tasks, and of task k in its first j times. -/
def usP (ts : List Tk) (xs : List Int) (k : Nat) (j : Nat) (t : Nat) : Int := us ts xs k t + (if at0 xs k ≤ (t : Int) ∧ (t : Int) < at0 xs k + j then tkM ts k else 0)
def usL (ts : List Tk) (xs : List Int) : List Int := (List.range 11).map (us ts xs ts.length)
def usageL (ts : List Tk) (xs : List Int) : List Int := if okTS ts xs then usL ts xs else []
theorem us_bd {ts : List Tk} {xs : List Int} (h : okTS ts xs = true) (t : Nat) : ∀ k, k ≤ ts.length → 0 ≤ us ts xs k t ∧ us ts xs k t ≤ 9 * k := by
  obtain ⟨h1, h2, h3⟩ := okTS_iff.1 h
  intro k
  induction k with
  | zero => intro _; simp [us]
  | succ k ih =>
    intro hk
    have := ih (by omega)
    have b := vTks_at h1 (k := k) (by omega)
    unfold us
    split <;> omega
theorem usP_zero (ts : List Tk) (xs : List Int) (k t : Nat) : usP ts xs k 0 t = us ts xs k t := by
  unfold usP
  rw [if_neg (by omega)]; omega
theorem usP_full (ts : List Tk) (xs : List Int) (k t j : Nat) (hj : (j : Int) = tkD ts k) : usP ts xs k j t = us ts xs (k + 1) t := by
  unfold usP
  rw [us, hj]
/-- The cells of a row of 11 numbers. -/
def ucell (g : Nat → Int) (j : Nat) : Value := .int .i64 (g j)
theorem usP_step (ts : List Tk) (xs : List Int) (k j x : Nat) (hx : at0 xs k = x) (i : Nat) :
    (if i = x + j then Value.int .i64 (usP ts xs k j (x + j) + tkM ts k) else ucell (usP ts xs k j) i) = ucell (usP ts xs k (j + 1)) i := by
  unfold ucell usP
  by_cases h : i = x + j
  · subst h
    rw [if_pos rfl, if_neg (by omega), if_pos (by omega)]
    congr 1; omega
  · rw [if_neg h]
    by_cases h' : at0 xs k ≤ (i : Int) ∧ (i : Int) < at0 xs k + j
    · rw [if_pos h', if_pos (by omega)]
    · rw [if_neg h', if_neg (by omega)]
theorem row_us {w : World} {b : Nat} {t : TypeId} {n : Nat} {ts : List Tk} {xs : List Int} {k j x : Nat} (hx : at0 xs k = x) (h : w.rowIs b t n (ucell (usP ts xs k j))) :
    (w.setCell ⟨b, x + j, none⟩ (.int .i64 (usP ts xs k j (x + j) + tkM ts k))).rowIs b t n (ucell (usP ts xs k (j + 1))) :=
  (h.set _ _).congr fun i _ => usP_step ts xs k j x hx i

theorem usL_len (ts : List Tk) (xs : List Int) : (usL ts xs).length = 11 := by simp [usL]
theorem usL_at (ts : List Tk) (xs : List Int) {i : Nat} (hi : i < 11) : at0 (usL ts xs) i = us ts xs ts.length i := by
  unfold at0
  rw [getD_lt _ _ (by rw [usL_len]; exact hi)]
  simp [usL]
theorem row_usL {w : World} {b : Nat} {t : TypeId} {ts : List Tk} {xs : List Int} (h : w.rowIs b t 11 (ucell (us ts xs ts.length))) : w.rowIs b t (usL ts xs).length (icell (usL ts xs) (usL ts xs).length) := by
  rw [usL_len]
  refine h.congr fun i hi => ?_
  unfold icell ucell
  rw [if_pos hi, usL_at ts xs hi]

theorem usageL_len (ts : List Tk) (xs : List Int) : (usageL ts xs).length ≤ 11 := by
  unfold usageL
  split
  · rw [usL_len]; omega
  · simp
theorem usageL_i64 (ts : List Tk) (xs : List Int) : ∀ i, i < (usageL ts xs).length → I64 (at0 (usageL ts xs) i) := by
  intro i hi
  unfold usageL at hi ⊢
  by_cases h : okTS ts xs = true
  · rw [if_pos h] at hi ⊢
    rw [usL_len] at hi
    rw [usL_at ts xs hi]
    have h1 := us_bd h i ts.length (Nat.le_refl _)
    have h2 := (vTks_len (okTS_iff.1 h).1).2
    exact ⟨by omega, by omega⟩
  · rw [if_neg h] at hi
    simp at hi

end Go.Proofs.YtjpdebgejlfeaaaDoor
