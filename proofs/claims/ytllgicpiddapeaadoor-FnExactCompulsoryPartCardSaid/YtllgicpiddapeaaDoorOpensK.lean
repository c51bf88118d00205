/- A task that came in: a struct of three integers. -/
import Derived.Test.YtllgicpiddapeaaDoorOpens
import Derived.Lib.SmallJoins
namespace Go.Proofs.YtllgicpiddapeaaDoor
open Go.RowKit Go.ChangeShapes Go.WideShapes Go.Deep Go.Joins

section
variable {H : Type} {enc : TypeId × Value → H} {P : Program} {W : World}
theorem task_of_trod {t ti : TypeId} {f0 f1 f2 : Field} {v : Value} {d : DataW H} {p : List MemPlace} (hs : P.underlying t = some (.struct #[f0, f1, f2])) (hone : oneCellFields P #[f0, f1, f2] = true) (hC : P.cellsOf t = 3) (t0 : f0.type = ti) (t1 : f1.type = ti) (t2 : f2.type = ti) (hti : P.underlying ti = some (.int .i64))
    {r : Reach} {base : Nat} (hv : Value.okWide P W r base t v) (h : DataW.Trod enc P W 0 (fun _ => true) true t v d p) : ∃ x : Tk, v = .agg #[.int .i64 x.s, .int .i64 x.d, .int .i64 x.m] ∧ I64 x.s ∧ I64 x.d ∧ I64 x.m := by
  obtain ⟨v0, v1, v2, y0, y1, y2, n, rfl, rfl, rfl, h0, h1, h2⟩ := open_agg3 hs hone hC hv h
  rw [t0] at h0
  rw [t1] at h1
  rw [t2] at h2
  obtain ⟨n0, e0, _, w0⟩ := DataW.trod_int hti h0
  obtain ⟨n1, e1, _, w1⟩ := DataW.trod_int hti h1
  obtain ⟨n2, e2, _, w2⟩ := DataW.trod_int hti h2
  simp at e0 e1 e2
  subst e0 e1 e2
  exact ⟨⟨n0, n1, n2⟩, rfl, I64_of_wf w0, I64_of_wf w1, I64_of_wf w2⟩
end
end Go.Proofs.YtllgicpiddapeaaDoor
