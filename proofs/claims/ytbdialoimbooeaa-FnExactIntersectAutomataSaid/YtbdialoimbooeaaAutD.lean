/- The walk of AutomatonAccepts in the program. -/
import Derived.Test.YtbdialoimbooeaaAutA
namespace Go.Proofs.Ytbdialoimbooeaa
open Go.RowKit

theorem mRows_ok {a : Au} (hv : vAut a = true) : (mRows a).length * 24 ≤ 140737488355328 ∧ (∀ i, i < (mRows a).length → (rw0 (mRows a) i).length * 8 ≤ 140737488355328) ∧ (∀ i, i < (mRows a).length → ∀ j, j < (rw0 (mRows a) i).length → I64 (at0 (rw0 (mRows a) i) j)) := by
  have hl := vAut_len hv
  rw [mRows_len]
  refine ⟨by omega, fun i hi => ?_, fun i hi j hj => ?_⟩
  · have := (mRows_row hv hi).1; omega
  · obtain ⟨h1, h2⟩ := mRows_row hv hi
    have := h2 j (by omega)
    unfold I64
    omega
theorem runM_in {a : Au} (hv : vAut a = true) {xs : List Int} (hx : allR xs 0 5 = true) : ∀ k, k ≤ xs.length → 0 ≤ runM a 0 xs k ∧ runM a 0 xs k ≤ a.next.length := by
  intro k
  induction k with
  | zero => intro _; rw [runM]; omega
  | succ k ih =>
    intro hk
    obtain ⟨h1, h2⟩ := ih (by omega)
    obtain ⟨x1, x2⟩ := allR_at hx (k := k) (by omega)
    rw [runM]
    exact (mRows_row hv (by omega)).2 _ (by omega)
end Go.Proofs.Ytbdialoimbooeaa
