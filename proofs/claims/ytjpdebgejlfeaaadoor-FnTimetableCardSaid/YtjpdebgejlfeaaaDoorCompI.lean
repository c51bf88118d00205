/- The walk of CompulsoryPart in the program. -/
import Derived.Test.YtjpdebgejlfeaaaDoorBitZ
import Derived.Test.YtjpdebgejlfeaaaDoorDvZ
namespace Go.Proofs.YtjpdebgejlfeaaaDoor
open Go.RowKit

theorem TzTab.ext {w w' : World} (h : TzTab w) (hb : 1 < w.heap.size) (hx : Ext w w') : TzTab w' := by
  obtain ⟨t0, t1, t2, t3, t4, t5⟩ := h
  exact ⟨(hx.cells _ _ hb).trans t0, (hx.cells _ _ hb).trans t1, (hx.cells _ _ hb).trans t2, (hx.cells _ _ hb).trans t3, (hx.cells _ _ hb).trans t4, (hx.cells _ _ hb).trans t5⟩
/-- The compulsory part of a task. -/
def compB (t : Tk) : Int × Int := if vTk t && decide ((topB t.s.toNat : Int) < lowB t.s.toNat + t.d) then (topB t.s.toNat, lowB t.s.toNat + t.d) else (0, 0)
def pairV (p : Int × Int) : Value := .tuple #[.int .i64 p.1, .int .i64 p.2]
end Go.Proofs.YtjpdebgejlfeaaaDoor
