/- Draws of the generator: tasks, as the laws read them. -/
import Derived.Test.YtjpdebgejlfeaaaDoorQ5
import Derived.Test.YtjpdebgejlfeaaaDoorDrwA
namespace Go.Proofs.YtjpdebgejlfeaaaDoor
open Go.RowKit

/-- Tasks and a capacity came; memory only grew. -/
def DrawnTC (w : World) (e : Ending) (w' : World) : Prop :=
  ∃ (v : Value) (ts : List Tk) (c : Int), e = .returned (.tuple #[v, .int .i64 c]) ∧ 1 ≤ ts.length ∧ ts.length ≤ 8 ∧ -1 ≤ c ∧ c ≤ 100 ∧ STasks w' v ts ∧ Ext w w'
theorem TasksGot.to {w0 w W W' : World} {br N : Nat} {e : Ending} (h : TasksGot w0 br N W e W') (hx : Ext w W) (hb : w.heap.size ≤ br) : DrawnTC w e W' := by
  obtain ⟨v, n, c, h1, h2, h3, h4, h5, h6, -, h8⟩ := h
  obtain ⟨ts, e1, e2⟩ := h6.tasks (by omega) (by omega) (by omega)
  exact ⟨v, ts, c, h1, by omega, by omega, h4, h5, e2, Below.trans hx (h8.below hx.size (fun k hk => by omega))⟩
end Go.Proofs.YtjpdebgejlfeaaaDoor
