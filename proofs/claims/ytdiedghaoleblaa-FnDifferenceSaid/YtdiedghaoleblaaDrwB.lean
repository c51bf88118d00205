/- Draws of the generator: a model with few solutions or none. -/
import Derived.Test.YtdiedghaoleblaaDrwF
import Derived.Deep.CutBlock
import Derived.Deep.DeepCutAuto
import Derived.Test.YtdiedghaoleblaaRelZ
namespace Go.Proofs.Ytdiedghaoleblaa
open Go.RowKit

theorem MB.keepS {w0 : World} {br rb mc N : Nat} {W wr w2 : World} {dv cv : Value} {S : Nat → Prop} (h : MB w0 br rb mc N W wr dv cv) (hk : Keep S wr w2) (h1 : S mc) (h2 : S rb) (h3 : S br) (h4 : ∀ k, k < W.heap.size → S k) : MB w0 br rb mc N W w2 dv cv := by
  have b0 := h.b0
  have hw0 := h.w00
  exact ⟨(hk.cell (p := ⟨mc, 0, none⟩) h.b1 h1).trans h.c0, (hk.cell (p := ⟨mc, 1, none⟩) h.b1 h1).trans h.c1, fun i => (hk.frz (p := ⟨mc, i, none⟩) h.b1 h1).trans (h.fz i),
    h.r.keep hk h2, h.rd.keep hk h3 (fun k hk => h4 k (by omega)), h.kp.trans9 hk (fun k hk _ => h4 k hk), b0, Nat.lt_of_lt_of_le h.b1 hk.size, h.r0, h.ne, h.br0, hw0⟩
/-- A row of numbers becomes a list of the draw, in other blocks. -/
theorem LR.iv9 {base : Nat} {w : World} {v : Value} {n : Nat} {lo hi : Int} (h : LR base 3 1 w v n lo hi) (hn : n ≤ 100) (h1 : -100000 ≤ lo) (h2 : hi ≤ 100000) : ∃ xs, xs.length = n ∧ IV (fun k => base ≤ k) w v xs := by
  obtain ⟨xs, a, b, -⟩ := LN.iv (.inr h) hn h1 h2
  exact ⟨xs, a, b⟩
end Go.Proofs.Ytdiedghaoleblaa
/- Draws of the generator: regions that draw their order and read numbers. -/
namespace Go.Proofs.Ytdiedghaoleblaa
open Go.RowKit

/-- Worlds while a region reads numbers: m operations are left of n. -/
def RdCn (w0 : World) (br N n : Nat) (wx : World) (m : Nat) (W : World) : Prop := ∃ M, M + m ≤ N + n ∧ RdSt w0 br M W ∧ Keep (fun k => k ≠ br) wx W
theorem RdCn.le {w0 : World} {br N n m : Nat} {wx W : World} (h : RdCn w0 br N n wx (m + 1) W) : RdCn w0 br N n wx m W := by
  obtain ⟨M, h1, h2⟩ := h
  exact ⟨M, by omega, h2⟩
theorem RdCn.ext {w0 : World} {br N n m : Nat} {wx W W' : World} (h : RdCn w0 br N n wx (m + 1) W) (hx : Ext W W') : RdCn w0 br N n wx m W' := by
  obtain ⟨M, h1, h2, h3⟩ := h
  exact ⟨M, by omega, h2.grow hx, h3.trans (hx.keep _)⟩
theorem RdCn.step {w0 : World} {br N n m : Nat} {wx W : World} (h : RdCn w0 br N n wx (m + 1) W) (hN : N + n ≤ 900000) : ∃ M, RdSt w0 br M W ∧ M ≤ 1000000 ∧ ∀ W', RdSt w0 br (M + 1) W' → Keep (fun k => k ≠ br) W W' → RdCn w0 br N n wx m W' := by
  obtain ⟨M, h1, h2, h3⟩ := h
  exact ⟨M, h2, by omega, fun W' a b => ⟨M + 1, by omega, a, h3.trans b⟩⟩
theorem RdCn.start {w0 : World} {br N : Nat} {wx : World} (n : Nat) (h : RdSt w0 br N wx) : RdCn w0 br N n wx n wx.drew :=
  ⟨N, by omega, h.grow (Ext.refl _).drew, ((Ext.refl _).drew).keep _⟩
theorem RdCn.fin {w0 : World} {br N n : Nat} {wx W : World} (h : RdCn w0 br N n wx 0 W) : RdSt w0 br (N + n) W ∧ Keep (fun k => k ≠ br) wx W := by
  obtain ⟨M, h1, h2, h3⟩ := h
  exact ⟨h2.mono (by omega), h3⟩
theorem RdCn.size {w0 : World} {br N n m : Nat} {wx W : World} (h : RdCn w0 br N n wx m W) : wx.heap.size ≤ W.heap.size := by
  obtain ⟨M, h1, h2, h3⟩ := h
  exact h3.size
theorem RdCn.kp {w0 : World} {br N n m : Nat} {wx W : World} (h : RdCn w0 br N n wx m W) : Keep (fun k => k ≠ br) wx W := by
  obtain ⟨M, h1, h2, h3⟩ := h
  exact h3
theorem IV.two (S : Nat → Prop) (w : World) (x y : Int) (hS : S w.heap.size) (hx : -100000 ≤ x ∧ x ≤ 100000) (hy : -100000 ≤ y ∧ y ≤ 100000) : IV S (w.alloc (.cells #[.int .i64 x, .int .i64 y] 3)) (.slice (some ⟨w.heap.size, 0, none⟩) 2 2) [x, y] := by
  refine ⟨.inr ⟨w.heap.size, 2, 2, fun i => if i = 0 then vI x else vI y, rfl, Nat.le_refl _, Nat.le_refl _, ⟨#[.int .i64 x, .int .i64 y], World.alloc_heap_new w _, rfl, fun i hi => ?_⟩, fun i hi => ?_⟩, (fun g hg => ?_), by simp, fun i hi => ?_⟩
  · obtain rfl | rfl : i = 0 ∨ i = 1 := by omega
    all_goals rfl
  · obtain rfl | rfl : i = 0 ∨ i = 1 := by simp at hi; omega
    all_goals rfl
  · have hg : some w.heap.size = some g := hg
    injection hg with hg
    subst hg
    exact hS
  · obtain rfl | rfl : i = 0 ∨ i = 1 := by simp at hi; omega
    · exact hx
    · exact hy
theorem IV.old {S : Nat → Prop} {w : World} {v : Value} {xs : List Int} (h : IV S w v xs) : IV (fun k => S k ∧ k < w.heap.size) w v xs := ⟨h.1, fun g hg => ⟨h.2.1 g hg, h.lt g hg⟩, h.2.2⟩
theorem RV.old {S : Nat → Prop} {w : World} {v : Value} {rs : List (List Int)} (h : RV S w v rs) : RV (fun k => S k ∧ k < w.heap.size) w v rs := by
  have hb := h.1.blk9
  obtain ⟨⟨cells, h1, h2, h3⟩, h4⟩ := h
  refine ⟨⟨cells, h1, fun g hg => ⟨h2 g hg, (hb g hg).2⟩, fun i hi => ?_⟩, h4⟩
  obtain ⟨cv, q1, q2, q3⟩ := h3 i hi
  exact ⟨cv, q1, q2, fun g hg => ⟨q3 g hg, q2.lt9 g hg⟩⟩
end Go.Proofs.Ytdiedghaoleblaa
