/- Draws of the generator: a model with few solutions or none. -/
import Derived.Test.YtmfbdaocnijnpaaDrwF
import Derived.Deep.CutBlock
import Derived.Deep.DeepCutAuto
import Derived.Test.YtmfbdaocnijnpaaRelZ
namespace Go.Proofs.Ytmfbdaocnijnpaa
open Go.RowKit

theorem MB.keepS {w0 : World} {br rb mc N : Nat} {W wr w2 : World} {dv cv : Value} {S : Nat → Prop} (h : MB w0 br rb mc N W wr dv cv) (hk : Keep S wr w2) (h1 : S mc) (h2 : S rb) (h3 : S br) (h4 : ∀ k, k < W.heap.size → S k) : MB w0 br rb mc N W w2 dv cv := by
  have b0 := h.b0
  have hw0 := h.w00
  exact ⟨(hk.cell (p := ⟨mc, 0, none⟩) h.b1 h1).trans h.c0, (hk.cell (p := ⟨mc, 1, none⟩) h.b1 h1).trans h.c1, fun i => (hk.frz (p := ⟨mc, i, none⟩) h.b1 h1).trans (h.fz i),
    h.r.keep hk h2, h.rd.keep hk h3 (fun k hk => h4 k (by omega)), h.kp.trans9 hk (fun k hk _ => h4 k hk), b0, Nat.lt_of_lt_of_le h.b1 hk.size, h.r0, h.ne, h.br0, hw0⟩
theorem CA.keepO {L base : Nat} {S T : Nat → Prop} {w w' : World} {v : Value} {cs : List Con} (h : CA L base S w v cs) (hk : Keep T w w') (hb : ∀ g, v.ownBlock = some g → T g) (hS : ∀ k, S k → T k) : CA L base S w' v cs := by
  obtain ⟨cells, h1, h2⟩ := h
  refine ⟨cells, ⟨h1.1, ?_⟩, fun i hi => (h2 i hi).keep hk hS⟩
  rcases h1.2 with hn | ⟨g, cap, cur, e, hbg, hgg, rest⟩
  · exact .inl hn
  · exact .inr ⟨g, cap, cur, e, hbg, (hk.block g (Array.getElem?_eq_some_iff.1 hgg).1 (hb g (by rw [e]; rfl))).trans hgg, rest⟩
theorem CA.mono9 {L base : Nat} {S T : Nat → Prop} {w : World} {v : Value} {cs : List Con} (h : CA L base S w v cs) (hS : ∀ k, S k → T k) : CA L base T w v cs := by
  obtain ⟨cells, h1, h2⟩ := h
  exact ⟨cells, h1, fun i hi => (h2 i hi).mono hS⟩
theorem CA.nb {L base : Nat} {S : Nat → Prop} {w : World} {v : Value} {cs : List Con} (h : CA L base S w v cs) : CA L base (fun k => S k ∧ k ≠ w.heap.size) w v cs := by
  obtain ⟨cells, h1, h2⟩ := h
  refine ⟨cells, h1, fun i hi => ?_⟩
  obtain ⟨vv, va, vr, e0, e1, e2, e3, e4, q1, q2, q3, q4⟩ := h2 i hi
  exact ⟨vv, va, vr, e0, e1, e2, e3, e4, q1.nb, q2.nb, q3.nb, q4⟩
/-- The model is copied into the result's block. -/
theorem MB.done {w0 : World} {br rb mc N M B n : Nat} {W wr w' : World} {dv cv : Value} {cs : List Con} {S : Nat → Prop} (h : MB w0 br rb mc N W wr dv cv) (hr : rb = W.heap.size) (hn1 : 1 ≤ n) (hn4 : n ≤ 4) (hL : LR (W.heap.size + 1) 3 1 wr dv n 0 63) (hdb : ∀ g, dv.ownBlock = some g → g < B)
    (hA : CA 99 B S wr cv cs) (hS : ∀ k, S k → B ≤ k) (hB1 : W.heap.size + 1 ≤ B) (hB2 : B ≤ wr.heap.size) (hk : Keep (fun k => k ≠ rb) wr w') (hN : N ≤ M) :
    MV 99 W.heap.size B 0 63 w' dv cv n cs ∧ RdSt w0 br M w' ∧ Keep (fun k => k ≠ br) W w' := by
  subst hr
  have hbr := h.br0
  have hw0 := h.w00
  refine ⟨⟨hn1, hn4, (hL.keep hk (fun k hk => by omega)).mono (by omega) (by omega) (by omega), hdb, (hA.mono9 hS).keep hk (fun k hk => by omega) (fun k hk => by omega), by omega, Nat.le_trans hB2 hk.size⟩, (h.rd.mono hN).keep hk (by omega) (fun k hk => by omega), h.kp.trans9 hk (fun k hk _ => by omega)⟩
/-- A row of numbers becomes a list of the draw, in other blocks. -/
theorem LR.iv9 {base : Nat} {w : World} {v : Value} {n : Nat} {lo hi : Int} (h : LR base 3 1 w v n lo hi) (hn : n ≤ 100) (h1 : -100000 ≤ lo) (h2 : hi ≤ 100000) : ∃ xs, xs.length = n ∧ IV (fun k => base ≤ k) w v xs := by
  obtain ⟨xs, a, b, -⟩ := LN.iv (.inr h) hn h1 h2
  exact ⟨xs, a, b⟩
end Go.Proofs.Ytmfbdaocnijnpaa
/- Draws of the generator: regions that draw their order and read numbers. -/
namespace Go.Proofs.Ytmfbdaocnijnpaa
open Go.RowKit

/-- Worlds while a region reads numbers: m operations are left of n. -/
def RdC (w0 : World) (br N n : Nat) (wx : World) (m : Nat) (W : World) : Prop := ∃ M, M + m ≤ N + n ∧ RdSt w0 br M W ∧ Keep (fun k => k ≠ br) wx W
theorem RdC.le {w0 : World} {br N n m : Nat} {wx W : World} (h : RdC w0 br N n wx (m + 1) W) : RdC w0 br N n wx m W := by
  obtain ⟨M, h1, h2⟩ := h
  exact ⟨M, by omega, h2⟩
theorem RdC.ext {w0 : World} {br N n m : Nat} {wx W W' : World} (h : RdC w0 br N n wx (m + 1) W) (hx : Ext W W') : RdC w0 br N n wx m W' := by
  obtain ⟨M, h1, h2, h3⟩ := h
  exact ⟨M, by omega, h2.grow hx, h3.trans (hx.keep _)⟩
theorem RdC.step {w0 : World} {br N n m : Nat} {wx W : World} (h : RdC w0 br N n wx (m + 1) W) (hN : N + n ≤ 900000) : ∃ M, RdSt w0 br M W ∧ M ≤ 1000000 ∧ ∀ W', RdSt w0 br (M + 1) W' → Keep (fun k => k ≠ br) W W' → RdC w0 br N n wx m W' := by
  obtain ⟨M, h1, h2, h3⟩ := h
  exact ⟨M, h2, by omega, fun W' a b => ⟨M + 1, by omega, a, h3.trans b⟩⟩
theorem RdC.start {w0 : World} {br N : Nat} {wx : World} (n : Nat) (h : RdSt w0 br N wx) : RdC w0 br N n wx n wx.drew :=
  ⟨N, by omega, h.grow (Ext.refl _).drew, ((Ext.refl _).drew).keep _⟩
theorem RdC.fin {w0 : World} {br N n : Nat} {wx W : World} (h : RdC w0 br N n wx 0 W) : RdSt w0 br (N + n) W ∧ Keep (fun k => k ≠ br) wx W := by
  obtain ⟨M, h1, h2, h3⟩ := h
  exact ⟨h2.mono (by omega), h3⟩
theorem RdC.size {w0 : World} {br N n m : Nat} {wx W : World} (h : RdC w0 br N n wx m W) : wx.heap.size ≤ W.heap.size := by
  obtain ⟨M, h1, h2, h3⟩ := h
  exact h3.size
theorem RdC.kp {w0 : World} {br N n m : Nat} {wx W : World} (h : RdC w0 br N n wx m W) : Keep (fun k => k ≠ br) wx W := by
  obtain ⟨M, h1, h2, h3⟩ := h
  exact h3
theorem IV.two (S : Nat → Prop) (w : World) (x y : Int) (hS : S w.heap.size) (hx : -100000 ≤ x ∧ x ≤ 100000) (hy : -100000 ≤ y ∧ y ≤ 100000) : IV S (w.alloc (.cells #[.int .i64 x, .int .i64 y] 3)) (.slice (some ⟨w.heap.size, 0, none⟩) 2 2) [x, y] := by
  refine ⟨.inr ⟨w.heap.size, 2, 2, fun i => if i = 0 then vI x else vI y, rfl, Nat.le_refl _, Nat.le_refl _, ⟨#[.int .i64 x, .int .i64 y], World.alloc_heap_new w _, rfl, fun i hi => ?_⟩, fun i hi => ?_⟩, (fun g hg => ?_), by simp, fun i hi => ?_⟩
  · obtain rfl | rfl : i = 0 ∨ i = 1 := by omega
    all_goals rfl
  · obtain rfl | rfl : i = 0 ∨ i = 1 := by simp at hi; omega
    all_goals rfl
  · have hg : some w.heap.size = some g := hg
    injection hg with hg
    subst hg
    exact hS
  · obtain rfl | rfl : i = 0 ∨ i = 1 := by simp at hi; omega
    · exact hx
    · exact hy
theorem IV.old {S : Nat → Prop} {w : World} {v : Value} {xs : List Int} (h : IV S w v xs) : IV (fun k => S k ∧ k < w.heap.size) w v xs := ⟨h.1, fun g hg => ⟨h.2.1 g hg, h.lt g hg⟩, h.2.2⟩
theorem RV.old {S : Nat → Prop} {w : World} {v : Value} {rs : List (List Int)} (h : RV S w v rs) : RV (fun k => S k ∧ k < w.heap.size) w v rs := by
  have hb := h.1.blk9
  obtain ⟨⟨cells, h1, h2, h3⟩, h4⟩ := h
  refine ⟨⟨cells, h1, fun g hg => ⟨h2 g hg, (hb g hg).2⟩, fun i hi => ?_⟩, h4⟩
  obtain ⟨cv, q1, q2, q3⟩ := h3 i hi
  exact ⟨cv, q1, q2, fun g hg => ⟨q3 g hg, q2.lt9 g hg⟩⟩
theorem CA.old {L base : Nat} {S : Nat → Prop} {w : World} {v : Value} {cs : List Con} (h : CA L base S w v cs) : CA L base (fun k => S k ∧ k < w.heap.size) w v cs := by
  obtain ⟨cells, h1, h2⟩ := h
  refine ⟨cells, h1, fun i hi => ?_⟩
  obtain ⟨vv, va, vr, e0, e1, e2, e3, e4, q1, q2, q3, q4⟩ := h2 i hi
  exact ⟨vv, va, vr, e0, e1, e2, e3, e4, q1.old, q2.old, q3.old, q4⟩
theorem CA.own9 {L base : Nat} {S : Nat → Prop} {w : World} {v : Value} {cs : List Con} (h : CA L base S w v cs) : ∀ g, v.ownBlock = some g → base ≤ g ∧ g < w.heap.size := by
  obtain ⟨cells, h1, -⟩ := h
  exact fun g hg => World.ownsRow.lt h1 g hg
theorem MF.model {A B : Nat} {lo hi : Int} {w : World} {dv cv : Value} {n : Nat} {cs : List Con} (h : MF A B lo hi w dv cv n cs) (hlo : -100000 ≤ lo) (hhi : hi ≤ 100000) (hc : cs.length ≤ 1000) : ∃ ds, ds.length = n ∧ SInts w dv ds ∧ SCons w cv cs := by
  obtain ⟨xs, h1, h2, -⟩ := LN.iv (.inr h.ds) (by have := h.n4; omega) hlo hhi
  exact ⟨xs, h1, h2.ints, h.ca.cons (by omega)⟩
end Go.Proofs.Ytmfbdaocnijnpaa
