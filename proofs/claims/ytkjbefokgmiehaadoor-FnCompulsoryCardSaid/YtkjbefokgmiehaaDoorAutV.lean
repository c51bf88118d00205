/- Automata: the walks of the laws' own copies, sizes and comparisons, and of ValidAutomaton in the reference and in the program. -/
import Derived.Test.YtkjbefokgmiehaaDoorAutB
import Derived.Test.YtkjbefokgmiehaaDoorUtlA
namespace Go.Proofs.YtkjbefokgmiehaaDoor
open Go.RowKit

/-- An automaton. -/
structure Au where
  next : List (List Int)
  final : List Int
theorem OwnK.setFar {B0 : Nat} {w : World} {b : Nat} {rs : List (List Int)} {k : Nat} (h : OwnK B0 w b rs k) {p : Addr} (hp : p.block < B0) (hpb : b ≠ p.block) (u : Value) : OwnK B0 (w.setCell p u) b rs k := by
  obtain ⟨g, h1, h2, h3⟩ := h
  refine ⟨g, h1.setOther hpb u, h2, fun i hi => ?_⟩
  obtain ⟨bi, e1, e2, e3, e4⟩ := h3 i hi
  exact ⟨bi, e1, e2, e3, e4.setOther (by omega) u⟩
theorem OwnK.mono {B0 B1 : Nat} {w : World} {b : Nat} {rs : List (List Int)} {k : Nat} (h : OwnK B0 w b rs k) (hB : B1 ≤ B0) : OwnK B1 w b rs k := by
  obtain ⟨g, h1, h2, h3⟩ := h
  refine ⟨g, h1, h2, fun i hi => ?_⟩
  obtain ⟨bi, e1, e2, e3, e4⟩ := h3 i hi
  exact ⟨bi, by omega, e2, e3, e4⟩
/-- The sizes of an automaton: what is left, or -1. -/
def SzA (a : Au) (n : Int) (w : World) (e : Ending) (w' : World) : Prop :=
  ∃ r : Int, e = .returned (.int .i64 r) ∧ (r = -1 ∨ 0 ≤ r ∧ r ≤ n ∧ (a.next.length : Int) ≤ n ∧ (a.final.length : Int) ≤ n ∧ ∀ i, i < a.next.length → ((rw0 a.next i).length : Int) ≤ n) ∧ Ext w w'

/-- A copy of an automaton in new memory. -/
def NewAut (a : Au) (w : World) (e : Ending) (w' : World) : Prop :=
  ∃ b b', w.heap.size ≤ b ∧ w.heap.size ≤ b' ∧ e = .returned (.agg #[.slice (some ⟨b, 0, none⟩) a.next.length a.next.length, .slice (some ⟨b', 0, none⟩) a.final.length a.final.length]) ∧
    OwnK w.heap.size w' b a.next a.next.length ∧ w'.rowIs b' 3 a.final.length (icell a.final a.final.length) ∧ Ext w w'
end Go.Proofs.YtkjbefokgmiehaaDoor
