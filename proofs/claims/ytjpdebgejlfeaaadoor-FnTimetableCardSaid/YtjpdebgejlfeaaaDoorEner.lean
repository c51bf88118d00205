/- The walks of RequiredEnergy, in the reference and in the program. -/
import Derived.Test.YtjpdebgejlfeaaaDoorMksp
import Derived.Test.YtjpdebgejlfeaaaDoorDom
namespace Go.Proofs.YtjpdebgejlfeaaaDoor
open Go.RowKit

/-- The length of the intersection of two intervals. -/
def ov (a b c d : Int) : Int := max 0 (min b d - max a c)
/-- The least overlap of task i with an interval over its first j starts. -/
def lk (ts : List Tk) (i : Nat) (l h : Int) : Nat → Int
  | 0 => tkD ts i
  | j + 1 => min (lk ts i l h j) (ov (at0 (domL (tkS ts i)) j) (at0 (domL (tkS ts i)) j + tkD ts i) l h)
def lkA (ts : List Tk) (i : Nat) (l h : Int) : Int := lk ts i l h (domL (tkS ts i)).length
/-- The energy of the first k tasks. -/
def en (ts : List Tk) (l h : Int) : Nat → Int
  | 0 => 0
  | k + 1 => en ts l h k + lkA ts k l h * tkM ts k
def enR (ts : List Tk) (l h : Int) : Int := if vTks ts && (inR l 0 h && !decide (11 < h)) then en ts l h ts.length else -1
theorem lk_bd {ts : List Tk} (hv : vTks ts = true) {i : Nat} (hi : i < ts.length) (l h : Int) : ∀ j, 0 ≤ lk ts i l h j ∧ lk ts i l h j ≤ 6 := by
  have b := vTks_at hv hi
  intro j
  induction j with
  | zero => unfold lk; omega
  | succ j ih => unfold lk ov; omega
theorem mul_bd {a b : Int} (h1 : 0 ≤ a) (h2 : a ≤ 6) (h3 : 0 ≤ b) (h4 : b ≤ 9) : 0 ≤ a * b ∧ a * b ≤ 54 := by
  have e1 := Int.mul_nonneg h1 h3
  have e2 := Int.mul_le_mul h2 h4 h3 (by omega : (0 : Int) ≤ 6)
  omega
theorem en_bd {ts : List Tk} (hv : vTks ts = true) (l h : Int) : ∀ k, k ≤ ts.length → 0 ≤ en ts l h k ∧ en ts l h k ≤ 54 * k := by
  intro k
  induction k with
  | zero => intro _; simp [en]
  | succ k ih =>
    intro hk
    have := ih (by omega)
    have b := vTks_at hv (k := k) (by omega)
    have c := lk_bd hv (i := k) (by omega) l h (domL (tkS ts k)).length
    have d := mul_bd c.1 c.2 b.2.2.2.2.2.1 b.2.2.2.2.2.2
    unfold en lkA
    omega
theorem retv {k : IntKind} {a b : Int} (h : a = b) : Value.int k a = .int k b := by rw [h]
theorem lk_mem {ts : List Tk} (hv : vTks ts = true) {i j : Nat} (hi : i < ts.length) (hj : j < (domL (tkS ts i)).length) :
    0 ≤ at0 (domL (tkS ts i)) j ∧ at0 (domL (tkS ts i)) j ≤ 5 ∧ 1 ≤ tkD ts i ∧ tkD ts i ≤ 6 := by
  have a := domL_bd (tkS ts i) hj
  have b := vTks_at hv hi
  omega

end Go.Proofs.YtjpdebgejlfeaaaDoor
