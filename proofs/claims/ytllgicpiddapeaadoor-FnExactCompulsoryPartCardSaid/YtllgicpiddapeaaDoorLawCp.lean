/- The law's walk: FnExactCompulsoryPart returns true. -/
import Derived.Test.YtllgicpiddapeaaDoorCompS
namespace Go.Proofs.YtllgicpiddapeaaDoor
open Go.RowKit

set_option maxRecDepth 100000 in
set_option maxHeartbeats 4000000 in
theorem toTask_any (s d m : Int) (w : World) : Calls Tryd.prog 6 #[.agg #[.int .i64 s, .int .i64 d, .int .i64 m]] w (Ret (.agg #[.int .i64 s, .int .i64 d, .int .i64 m]) w) := by
  go_enter Tryd.func6, Tryd.ntmps6
  go_wp2
  go_returns
  exact Ret.mk rfl ((((Ext.refl w).alloc _).alloc _).alloc _)
set_option maxRecDepth 100000 in
set_option maxHeartbeats 4000000 in
theorem lawFnExactCompulsoryPart (x : Tk) (w : World) (hT : TzTab w) (hb : 1 < w.heap.size) (hI : I64 x.s ∧ I64 x.d ∧ I64 x.m) :
    Calls Tryd.prog 3 #[.agg #[.int .i64 x.s, .int .i64 x.d, .int .i64 x.m]] w (Ret (.bool true) w) := by
  obtain ⟨s, d, m⟩ := x
  simp only at hI ⊢
  obtain ⟨i1, i2, i3⟩ := hI
  obtain ⟨w0, hw0⟩ : ∃ w0, w0 = w.alloc (.cells #[.int .i64 s, .int .i64 d, .int .i64 m] 23) := ⟨_, rfl⟩
  have HX0 := hide (show Ext w w0 by rw [hw0]; exact (Ext.refl w).alloc _)
  have k0 : w0.cell? ⟨w.heap.size, 0, none⟩ = some (.int .i64 s) := by rw [hw0]; go_simp
  have k1 : w0.cell? ⟨w.heap.size, 1, none⟩ = some (.int .i64 d) := by rw [hw0]; go_simp
  have k2 : w0.cell? ⟨w.heap.size, 2, none⟩ = some (.int .i64 m) := by rw [hw0]; go_simp
  have ks : w.heap.size < w0.heap.size := by rw [hw0]; simp
  have HT := hide hT
  clear hT
  go_enter Tryd.func3, Tryd.ntmps3
  go_wp2_with fail
  rw [← hw0]
  clear hw0
  refine (toTask_any s d m _).mono ?_
  rintro e w1 ⟨rfl, hx1⟩
  have HX1 := hide (HX0.out.trans hx1)
  have k0 := (hx1.cells _ _ ks).trans k0
  have k1 := (hx1.cells _ _ ks).trans k1
  have k2 := (hx1.cells _ _ ks).trans k2
  have ks := Nat.lt_of_lt_of_le ks hx1.size
  clear hx1
  go_wp2_with fail
  refine (CompulsoryPartS_any s d m _ i1 i2 i3).mono ?_
  rintro e w2 ⟨rfl, hx2⟩
  have HX2 := hide (HX1.out.trans hx2)
  have k0 := (hx2.cells _ _ ks).trans k0
  have k1 := (hx2.cells _ _ ks).trans k1
  have k2 := (hx2.cells _ _ ks).trans k2
  have ks := Nat.lt_of_lt_of_le ks hx2.size
  clear hx2
  unfold pairV
  obtain ⟨p, hp⟩ : ∃ p, p = compB ⟨s, d, m⟩ := ⟨_, rfl⟩
  have HP := hide hp
  rw [← hp]
  clear hp
  go_wp2_with fail
  refine (toTask_any s d m _).mono ?_
  rintro e w3 ⟨rfl, hx3⟩
  have HX3 := hide (HX2.out.trans hx3)
  clear hx3 k0 k1 k2
  go_wp2_with fail
  refine (CompulsoryPartI_any s d m _ (TzTab.ext HT.out hb HX3.out) (Nat.lt_of_lt_of_le hb HX3.out.size)).mono ?_
  rintro e w4 ⟨rfl, hx4⟩
  have HX4 := hide (HX3.out.trans hx4)
  clear hx4
  unfold pairV
  rw [← HP.out]
  go_wp2
  go_ret
  exact Ret.mk rfl HX4.out
end Go.Proofs.YtllgicpiddapeaaDoor
