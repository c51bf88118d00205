/- The walks of Makespan, in the reference and in the program. -/
import Derived.Test.YtjpdebgejlfeaaaDoorQ12
import Derived.Test.YtjpdebgejlfeaaaDoorUtlA
namespace Go.Proofs.YtjpdebgejlfeaaaDoor
open Go.RowKit

/-- The latest end of the first k tasks. -/
def mk (ts : List Tk) (xs : List Int) : Nat → Int
  | 0 => 0
  | k + 1 => if mk ts xs k < at0 xs k + tkD ts k then at0 xs k + tkD ts k else mk ts xs k
/-- The tasks and their starts are valid. -/
def okTS (ts : List Tk) (xs : List Int) : Bool := vTks ts && (decide (xs.length = ts.length) && allR xs 0 5)
def mkspan (ts : List Tk) (xs : List Int) : Int := if okTS ts xs then mk ts xs ts.length else -1
theorem vTks_at {ts : List Tk} (h : vTks ts = true) {k : Nat} (hk : k < ts.length) : 0 ≤ tkS ts k ∧ tkS ts k ≤ 63 ∧ tkS ts k ≠ 0 ∧ 1 ≤ tkD ts k ∧ tkD ts k ≤ 6 ∧ 0 ≤ tkM ts k ∧ tkM ts k ≤ 9 := by
  have h1 : ts.all vTk = true := by
    unfold vTks at h
    simp only [Bool.and_eq_true] at h
    exact h.1
  have h2 := List.all_eq_true.1 h1 _ (tk0_mem hk)
  simp [vTk, vDom, inR] at h2
  unfold tkS tkD tkM
  omega
theorem vTks_len {ts : List Tk} (h : vTks ts = true) : 1 ≤ ts.length ∧ ts.length ≤ 4 := by
  unfold vTks inR at h
  simp at h
  omega
theorem okTS_iff {ts : List Tk} {xs : List Int} : okTS ts xs = true ↔ vTks ts = true ∧ xs.length = ts.length ∧ allR xs 0 5 = true := by simp [okTS]
theorem mk_bd {ts : List Tk} {xs : List Int} (h : okTS ts xs = true) : ∀ k, k ≤ ts.length → 0 ≤ mk ts xs k ∧ mk ts xs k ≤ 11 := by
  obtain ⟨h1, h2, h3⟩ := okTS_iff.1 h
  intro k
  induction k with
  | zero => intro _; simp [mk]
  | succ k ih =>
    intro hk
    have := ih (by omega)
    have a := allR_at h3 (k := k) (by omega)
    have b := vTks_at h1 (k := k) (by omega)
    unfold mk
    split <;> omega

theorem mk_max (ts : List Tk) (xs : List Int) (k : Nat) : mk ts xs (k + 1) = if mk ts xs k < at0 xs k + tkD ts k then at0 xs k + tkD ts k else mk ts xs k := by rw [mk]
end Go.Proofs.YtjpdebgejlfeaaaDoor
