/- propagate of the program. -/
import Derived.Test.YtllgicpiddapeaaDoorFix
namespace Go.Proofs.YtllgicpiddapeaaDoor
open Go.RowKit

/-- v is a model that reads as these domains and constraints. -/
def SMod (w : World) (v : Value) (ds : List Int) (cs : List Con) : Prop := ∃ vd vc, v = .agg #[vd, vc] ∧ SInts w vd ds ∧ SCons w vc cs
theorem SMod.ext {w w' : World} {v : Value} {ds : List Int} {cs : List Con} (h : SMod w v ds cs) (hx : Ext w w') : SMod w' v ds cs := by
  obtain ⟨vd, vc, h1, h2, h3⟩ := h
  exact ⟨vd, vc, h1, h2.ext hx, h3.ext hx⟩
end Go.Proofs.YtllgicpiddapeaaDoor
