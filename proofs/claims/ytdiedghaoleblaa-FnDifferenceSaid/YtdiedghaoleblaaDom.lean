/- The walks of the values of a domain, in the reference and in the program. -/
import Derived.Test.YtdiedghaoleblaaUtlA
import Derived.Test.YtdiedghaoleblaaApp
import Derived.Laws.Bits128
namespace Go.Proofs.Ytdiedghaoleblaa
open Go.RowKit

/-- Is value v in the domain d? -/
def hasB (d : Int) (v : Nat) : Bool := d / 2 ^ v % 2 == 1
/-- The values below k of a domain. -/
def domK (d : Int) : Nat → List Int
  | 0 => []
  | k + 1 => if hasB d k then domK d k ++ [(k : Int)] else domK d k
def domL (d : Int) : List Int := domK d 6
theorem domK_len (d : Int) (k : Nat) : (domK d k).length ≤ k := by
  induction k with
  | zero => simp [domK]
  | succ k ih =>
    unfold domK
    split
    · simp; omega
    · omega
theorem domK_mem (d : Int) (k : Nat) : ∀ x ∈ domK d k, 0 ≤ x ∧ x < k := by
  induction k with
  | zero => simp [domK]
  | succ k ih =>
    intro x hx
    unfold domK at hx
    split at hx
    · rcases List.mem_append.1 hx with h | h
      · have := ih x h; omega
      · simp at h; omega
    · have := ih x hx; omega
theorem domL_bd (d : Int) {i : Nat} (hi : i < (domL d).length) : 0 ≤ at0 (domL d) i ∧ at0 (domL d) i ≤ 5 := by
  have := domK_mem d 6 _ (at0_mem hi)
  unfold domL
  omega
theorem domL_i64 (d : Int) : ∀ i, i < (domL d).length → I64 (at0 (domL d) i) := fun i hi => by
  have := domL_bd d hi
  exact ⟨by omega, by omega⟩
theorem domL_len (d : Int) : (domL d).length ≤ 6 := domK_len d 6
theorem and1 (d : Int) (v : Nat) (h0 : 0 ≤ d) (h1 : d ≤ 9223372036854775807) : bits .and .i64 (d / 2 ^ v) 1 = d / 2 ^ v % 2 := by
  have e1 : (0 : Int) ≤ d / 2 ^ v := Int.ediv_nonneg h0 (Int.pow_nonneg (by omega))
  have e2 : d / 2 ^ v ≤ d := Int.ediv_le_self _ h0
  have := bits_mask .i64 63 (by decide) (fun n h h' => IntWalk.i64_in n ⟨by omega, by omega⟩) 1 (by omega) (d / 2 ^ v) e1 (by omega)
  simpa using this

end Go.Proofs.Ytdiedghaoleblaa
