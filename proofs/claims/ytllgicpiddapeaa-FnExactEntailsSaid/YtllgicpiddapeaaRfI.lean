/- Refutation by propagation: the program's walk (no clauses learnt). -/
import Derived.Test.YtllgicpiddapeaaRstL
import Derived.Test.YtllgicpiddapeaaClsW
namespace Go.Proofs.Ytllgicpiddapeaa
open Go.RowKit
attribute [local go_sem] evalOf

/-- An index's address into a list that the call has made. -/
def RS.ixl (D : List Nat) (xs : List Int) (i : Nat) : RS := ⟨D, fun _ v W => ∃ b, v = .pointer (some ⟨b, i, none⟩) ∧ b < W.heap.size ∧ W.cell? ⟨b, i, none⟩ = some (.int .i64 (at0 xs i)), fun _ _ _ _ h hx => by obtain ⟨b, h1, h2, h3⟩ := h; exact ⟨b, h1, Nat.lt_of_lt_of_le h2 hx.size, (hx.cells _ _ h2).trans h3⟩⟩
/-- Literals that hold, and the constraints: refuted by propagation. -/
def rftB (cs : List Con) (ds : List Int) (ls : List Lt) : Bool := hasI (propL cs (resCL ds ls)) 0
section
variable {cs : List Con} {n : Nat}
theorem rft_good {ds : List Int} (h : GoodD cs n ds) {ls : List Lt} (hc : okCl ls n = true) : GoodD cs n (resCL ds ls) := (resC_good h hc ls.length (Nat.le_refl _)).1
theorem rft_first (h4 : n ≤ 4) (h0 : 0 < n) {ds : List Int} (h : GoodD cs n ds) {ls : List Lt} (hc : okCl ls n = true) : (at0 (cluL cs [] (resCL ds ls)) 0 == 0) = rftB cs ds ls := by
  rw [cluL_nil h4 h0 (rft_good h hc), rftB]
  exact propL_first (rft_good h hc) h4 h0
theorem GoodD.dom {ds : List Int} (h : GoodD cs n ds) : DomN n ds := ⟨h.1, fun i hi => h.2.1 i (by rw [h.1]; exact hi)⟩
end
end Go.Proofs.Ytllgicpiddapeaa
