/- Probing: the program's, and the reference's. -/
import Derived.Test.YtllgicpiddapeaaDoorSpC
import Derived.Test.YtllgicpiddapeaaDoorPropP
namespace Go.Proofs.YtllgicpiddapeaaDoor
open Go.RowKit
attribute [local go_sem] evalOf

theorem probD_len (ds : List Int) (v a : Nat) : (probD ds v a).length = ds.length := by simp [probD]
theorem OwnRes.len {xs : List Int} {w w' : World} {A : Option Addr} {n c : Nat} (h : OwnRes xs w (.returned (.slice A n c)) w') : n = xs.length := by
  obtain ⟨A2, c2, h⟩ := h.form
  injection h
/-- A slice of its own that reads as xs. -/
def RS.ow (D : List Nat) (xs : List Int) (B : World) : RS := ⟨D, fun _ v W => OwnRes xs B (.returned v) W, fun _ _ _ _ h hx => h.grow hx⟩
end Go.Proofs.YtllgicpiddapeaaDoor
