/- The values that the solutions take, and how many values domains have: plain Lean. -/
import Derived.Test.YtalgilgfoekioaaGreatDoorSolW
namespace Go.Proofs.YtalgilgfoekioaaGreatDoor
open Go.RowKit

/-- The values that the first k lists take. -/
def bbK (rs : List (List Int)) (n : Nat) : Nat → List Int
  | 0 => zer n
  | k + 1 => orT (bbK rs n k) (rw0 rs k)
def bbL (cs : List Con) (ds : List Int) : List Int := bbK (solL cs ds) ds.length (solL cs ds).length
theorem bbK_good {rs : List (List Int)} {n : Nat} (h : ∀ i, i < rs.length → (rw0 rs i).length = n ∧ ValL (rw0 rs i)) : ∀ k, k ≤ rs.length → (bbK rs n k).length = n ∧ DomL (bbK rs n k)
  | 0, _ => ⟨zer_len n, DomL.zer n⟩
  | k + 1, hk => by
    obtain ⟨h1, h2⟩ := bbK_good h k (by omega)
    obtain ⟨h3, h4⟩ := h k (by omega)
    exact ⟨by rw [bbK, orT_len, h1], by rw [bbK]; exact h2.orT h4 (by rw [h3, h1])⟩
theorem bbL_good (cs : List Con) (ds : List Int) : (bbL cs ds).length = ds.length ∧ DomL (bbL cs ds) := bbK_good (fun _ hi => rw0_sol hi) _ (Nat.le_refl _)
theorem DomL.i64 {ds : List Int} (h : DomL ds) : ∀ i, i < ds.length → I64 (at0 ds i) := fun i hi => by have := h i hi; unfold I64; omega
/-- How many values the first k domains have. -/
def tsK (ds : List Int) : Nat → Int
  | 0 => 0
  | k + 1 => tsK ds k + ((domL (at0 ds k)).length : Int)
theorem tsK_bd (ds : List Int) : ∀ k, 0 ≤ tsK ds k ∧ tsK ds k ≤ 6 * k
  | 0 => by simp [tsK]
  | k + 1 => by
    have := tsK_bd ds k
    have := domL_len (at0 ds k)
    rw [tsK]
    constructor <;> push_cast <;> omega
end Go.Proofs.YtalgilgfoekioaaGreatDoor
