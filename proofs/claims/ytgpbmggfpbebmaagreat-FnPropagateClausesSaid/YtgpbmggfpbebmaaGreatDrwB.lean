/- Draws of the generator: a model with few solutions or none. -/
import Derived.Test.YtgpbmggfpbebmaaGreatDrwF
import Derived.Deep.CutBlock
import Derived.Deep.DeepCutAuto
import Derived.Test.YtgpbmggfpbebmaaGreatRelZ
namespace Go.Proofs.YtgpbmggfpbebmaaGreat
open Go.RowKit

set_option maxRecDepth 100000 in
/-- append of one constraint: which block is written, where the result lies. -/
theorem run_appCB (L base : Nat) (S : Nat → Prop) (w : World) (ty : TypeId) (v : Value) (cs : List Con) (c : Con) (b cp : Nat)
    (hown : CA L base S w v cs) (hc : CV5 L S w (fun j => w.cell? ⟨b, j, none⟩) c) (hl : cs.length ≤ 1000000) (hb : base ≤ w.heap.size) :
    ∃ v' w', (Builtin.append_ #[24, 24] ty #[v, .slice (some ⟨b, 0, none⟩) 1 cp]).run Tryz.prog w = .ok v' w' ∧ CA L base S w' v' (cs ++ [c]) ∧ w.grownBy w' v.ownBlock ∧ (∀ g, v.ownBlock = some g → base ≤ g) ∧ (∀ g, v'.ownBlock = some g → v.ownBlock = some g ∨ w.heap.size = g) := by
  obtain ⟨i, hi, hz⟩ := Option.map_eq_some_iff.1 Tryz.infoCd
  simp only [Prod.mk.injEq] at hz
  obtain ⟨hz1, hz2, hz3⟩ := hz
  obtain ⟨cells, h1, h2⟩ := hown
  have hc0 := hc
  obtain ⟨vv, va, vr, e0, e1, e2, e3, e4, q1, q2, q3, q4⟩ := hc
  obtain ⟨v', w', r1, r2, r3, -, r4⟩ := run_append_own_at (P := Tryz.prog) w base 24 ty 67 i _ 5 88 Tryz.underlying24 hi hz1 hz2 hz3 rfl (by omega) v cs.length cells h1 ⟨b, 0, none⟩ 1 cp [.int .i64 c.kk, vv, va, .int .i64 c.bound, vr] rfl
    (fun j u hj => by
      have hadd : (⟨b, 0, none⟩ : Addr).add j = ⟨b, j, none⟩ := by unfold Addr.add; split <;> simp_all
      rw [hadd]
      match j with
      | 0 => simp at hj; subst hj; exact e0
      | 1 => simp at hj; subst hj; exact e1
      | 2 => simp at hj; subst hj; exact e2
      | 3 => simp at hj; subst hj; exact e3
      | 4 => simp at hj; subst hj; exact e4
      | j + 5 => simp at hj)
    (fun u hu => by
      simp only [List.mem_cons, List.not_mem_nil, or_false] at hu
      rcases hu with rfl | rfl | rfl | rfl | rfl
      · rfl
      · exact q1.oneC
      · exact q2.oneC
      · rfl
      · exact q3.oneC)
    (by unfold maxLen; omega) (by omega) hb
  have hcl : cells.length = cs.length * 5 := h1.1
  have hkeep : ∀ {F : Nat → Option Value} {d : Con}, CV5 L S w F d → CV5 L S w' F d := by
    intro F d hd
    rcases h1.2 with ⟨hv, -⟩ | ⟨g, cap, cur, hv, -, hgg, -⟩
    · refine hd.keep (T := fun _ => True) ⟨r3.os, r3.tape, r3.output, r3.size, fun k hk _ => r3.block k hk (by rw [hv]; simp [Value.ownBlock])⟩ (fun _ _ => trivial)
    · exact ((hd.apart (g := g) ⟨cur, hgg⟩).keep (T := fun k => k ≠ g) ⟨r3.os, r3.tape, r3.output, r3.size, fun k hk hne => r3.block k hk (by rw [hv]; intro e; have e : some k = some g := e; injection e with e; exact hne e)⟩ (fun k hk => hk.2)).mono (fun k hk => hk.1)
  refine ⟨v', w', r1, ⟨cells ++ [.int .i64 c.kk, vv, va, .int .i64 c.bound, vr], by simpa using r2, fun i hi => ?_⟩, r3, fun g hg => (World.ownsRow.lt h1 g hg).1, fun g hg => r4.imp (fun e => e.symm.trans hg) (fun e => by rw [hg] at e; injection e with e; exact e.symm)⟩
  simp at hi
  by_cases hlt : i < cs.length
  · rw [show con0 (cs ++ [c]) i = con0 cs i by simp [con0, List.getD_eq_getElem?_getD, List.getElem?_append_left hlt]]
    exact (hkeep (h2 i hlt)).cast fun j hj => (List.getElem?_append_left (by omega)).symm
  · obtain rfl : i = cs.length := by omega
    rw [show con0 (cs ++ [c]) cs.length = c by simp [con0]]
    refine (hkeep (F := fun j => [Value.int .i64 c.kk, vv, va, .int .i64 c.bound, vr][j]?) ⟨vv, va, vr, rfl, rfl, rfl, rfl, rfl, q1, q2, q3, q4⟩).cast fun j hj => ?_
    show _ = (cells ++ _)[cs.length * 5 + j]?
    rw [List.getElem?_append_right (by omega), hcl, show cs.length * 5 + j - cs.length * 5 = j by omega]
theorem wpList_appCB (w : World) {ops : Array Oper} {rest : List Oper} {o : Oper} {a : Act} {Q : Exit → Act → World → Prop} (hgd : o.guard = none) (s x : Operand)
    (ho : o.op = .call { callee := .builtin .append, args := #[s, x], argTypes := #[24, 24] })
    (L base : Nat) (S : Nat → Prop) (v : Value) (cs : List Con) (c : Con) (b cp : Nat) (hs : a.eval s = v) (hx : a.eval x = .slice (some ⟨b, 0, none⟩) 1 cp)
    (hown : CA L base S w v cs) (hc : CV5 L S w (fun j => w.cell? ⟨b, j, none⟩) c) (hl : cs.length ≤ 1000000) (hb : base ≤ w.heap.size)
    (h : ∀ v' w', CA L base S w' v' (cs ++ [c]) → Keep (fun k => v.ownBlock ≠ some k) w w' → (∀ g, v'.ownBlock = some g → v.ownBlock = some g ∨ w.heap.size = g) → wpList Tryz.prog ops Q rest (a.put o.dst v') w') : wpList Tryz.prog ops Q (o :: rest) a w := by
  obtain ⟨v', w', hrun, h1, h2, -, h4⟩ := run_appCB L base S w o.type v cs c b cp hown hc hl hb
  refine wpList_plain hgd fun K hK => ?_
  unfold Oper.wp
  simp [execOp, ho, resolve, invoke, builtin, hs, hx, hrun, Result.andThen]
  exact hK _ _ (h v' w' h1 (Keep.of_grown h2) h4)
theorem MB.keepS {w0 : World} {br rb mc N : Nat} {W wr w2 : World} {dv cv : Value} {S : Nat → Prop} (h : MB w0 br rb mc N W wr dv cv) (hk : Keep S wr w2) (h1 : S mc) (h2 : S rb) (h3 : S br) (h4 : ∀ k, k < W.heap.size → S k) : MB w0 br rb mc N W w2 dv cv := by
  have b0 := h.b0
  have hw0 := h.w00
  exact ⟨(hk.cell (p := ⟨mc, 0, none⟩) h.b1 h1).trans h.c0, (hk.cell (p := ⟨mc, 1, none⟩) h.b1 h1).trans h.c1, fun i => (hk.frz (p := ⟨mc, i, none⟩) h.b1 h1).trans (h.fz i),
    h.r.keep hk h2, h.rd.keep hk h3 (fun k hk => h4 k (by omega)), h.kp.trans9 hk (fun k hk _ => h4 k hk), b0, Nat.lt_of_lt_of_le h.b1 hk.size, h.r0, h.ne, h.br0, hw0⟩
theorem CA.keepO {L base : Nat} {S T : Nat → Prop} {w w' : World} {v : Value} {cs : List Con} (h : CA L base S w v cs) (hk : Keep T w w') (hb : ∀ g, v.ownBlock = some g → T g) (hS : ∀ k, S k → T k) : CA L base S w' v cs := by
  obtain ⟨cells, h1, h2⟩ := h
  refine ⟨cells, ⟨h1.1, ?_⟩, fun i hi => (h2 i hi).keep hk hS⟩
  rcases h1.2 with hn | ⟨g, cap, cur, e, hbg, hgg, rest⟩
  · exact .inl hn
  · exact .inr ⟨g, cap, cur, e, hbg, (hk.block g (Array.getElem?_eq_some_iff.1 hgg).1 (hb g (by rw [e]; rfl))).trans hgg, rest⟩
theorem CA.mono9 {L base : Nat} {S T : Nat → Prop} {w : World} {v : Value} {cs : List Con} (h : CA L base S w v cs) (hS : ∀ k, S k → T k) : CA L base T w v cs := by
  obtain ⟨cells, h1, h2⟩ := h
  exact ⟨cells, h1, fun i hi => (h2 i hi).mono hS⟩
theorem CA.nb {L base : Nat} {S : Nat → Prop} {w : World} {v : Value} {cs : List Con} (h : CA L base S w v cs) : CA L base (fun k => S k ∧ k ≠ w.heap.size) w v cs := by
  obtain ⟨cells, h1, h2⟩ := h
  refine ⟨cells, h1, fun i hi => ?_⟩
  obtain ⟨vv, va, vr, e0, e1, e2, e3, e4, q1, q2, q3, q4⟩ := h2 i hi
  exact ⟨vv, va, vr, e0, e1, e2, e3, e4, q1.nb, q2.nb, q3.nb, q4⟩
/-- The model is copied into the result's block. -/
theorem MB.done {w0 : World} {br rb mc N M B n : Nat} {W wr w' : World} {dv cv : Value} {cs : List Con} {S : Nat → Prop} (h : MB w0 br rb mc N W wr dv cv) (hr : rb = W.heap.size) (hn1 : 1 ≤ n) (hn4 : n ≤ 4) (hL : LR (W.heap.size + 1) 3 1 wr dv n 0 63) (hdb : ∀ g, dv.ownBlock = some g → g < B)
    (hA : CA 99 B S wr cv cs) (hS : ∀ k, S k → B ≤ k) (hB1 : W.heap.size + 1 ≤ B) (hB2 : B ≤ wr.heap.size) (hk : Keep (fun k => k ≠ rb) wr w') (hN : N ≤ M) :
    MV 99 W.heap.size B 0 63 w' dv cv n cs ∧ RdSt w0 br M w' ∧ Keep (fun k => k ≠ br) W w' := by
  subst hr
  have hbr := h.br0
  have hw0 := h.w00
  refine ⟨⟨hn1, hn4, (hL.keep hk (fun k hk => by omega)).mono (by omega) (by omega) (by omega), hdb, (hA.mono9 hS).keep hk (fun k hk => by omega) (fun k hk => by omega), by omega, Nat.le_trans hB2 hk.size⟩, (h.rd.mono hN).keep hk (by omega) (fun k hk => by omega), h.kp.trans9 hk (fun k hk _ => by omega)⟩
/-- A row of numbers becomes a list of the draw, in other blocks. -/
theorem LR.iv9 {base : Nat} {w : World} {v : Value} {n : Nat} {lo hi : Int} (h : LR base 3 1 w v n lo hi) (hn : n ≤ 100) (h1 : -100000 ≤ lo) (h2 : hi ≤ 100000) : ∃ xs, xs.length = n ∧ IV (fun k => base ≤ k) w v xs := by
  obtain ⟨xs, a, b, -⟩ := LN.iv (.inr h) hn h1 h2
  exact ⟨xs, a, b⟩
end Go.Proofs.YtgpbmggfpbebmaaGreat
/- Draws of the generator: regions that draw their order and read numbers. -/
namespace Go.Proofs.YtgpbmggfpbebmaaGreat
open Go.RowKit

/-- Worlds while a region reads numbers: m operations are left of n. -/
def RdC (w0 : World) (br N n : Nat) (wx : World) (m : Nat) (W : World) : Prop := ∃ M, M + m ≤ N + n ∧ RdSt w0 br M W ∧ Keep (fun k => k ≠ br) wx W
theorem RdC.le {w0 : World} {br N n m : Nat} {wx W : World} (h : RdC w0 br N n wx (m + 1) W) : RdC w0 br N n wx m W := by
  obtain ⟨M, h1, h2⟩ := h
  exact ⟨M, by omega, h2⟩
theorem RdC.ext {w0 : World} {br N n m : Nat} {wx W W' : World} (h : RdC w0 br N n wx (m + 1) W) (hx : Ext W W') : RdC w0 br N n wx m W' := by
  obtain ⟨M, h1, h2, h3⟩ := h
  exact ⟨M, by omega, h2.grow hx, h3.trans (hx.keep _)⟩
theorem RdC.step {w0 : World} {br N n m : Nat} {wx W : World} (h : RdC w0 br N n wx (m + 1) W) (hN : N + n ≤ 900000) : ∃ M, RdSt w0 br M W ∧ M ≤ 1000000 ∧ ∀ W', RdSt w0 br (M + 1) W' → Keep (fun k => k ≠ br) W W' → RdC w0 br N n wx m W' := by
  obtain ⟨M, h1, h2, h3⟩ := h
  exact ⟨M, h2, by omega, fun W' a b => ⟨M + 1, by omega, a, h3.trans b⟩⟩
theorem RdC.start {w0 : World} {br N : Nat} {wx : World} (n : Nat) (h : RdSt w0 br N wx) : RdC w0 br N n wx n wx.drew :=
  ⟨N, by omega, h.grow (Ext.refl _).drew, ((Ext.refl _).drew).keep _⟩
theorem RdC.fin {w0 : World} {br N n : Nat} {wx W : World} (h : RdC w0 br N n wx 0 W) : RdSt w0 br (N + n) W ∧ Keep (fun k => k ≠ br) wx W := by
  obtain ⟨M, h1, h2, h3⟩ := h
  exact ⟨h2.mono (by omega), h3⟩
theorem RdC.size {w0 : World} {br N n m : Nat} {wx W : World} (h : RdC w0 br N n wx m W) : wx.heap.size ≤ W.heap.size := by
  obtain ⟨M, h1, h2, h3⟩ := h
  exact h3.size
theorem RdC.kp {w0 : World} {br N n m : Nat} {wx W : World} (h : RdC w0 br N n wx m W) : Keep (fun k => k ≠ br) wx W := by
  obtain ⟨M, h1, h2, h3⟩ := h
  exact h3
theorem IV.two (S : Nat → Prop) (w : World) (x y : Int) (hS : S w.heap.size) (hx : -100000 ≤ x ∧ x ≤ 100000) (hy : -100000 ≤ y ∧ y ≤ 100000) : IV S (w.alloc (.cells #[.int .i64 x, .int .i64 y] 3)) (.slice (some ⟨w.heap.size, 0, none⟩) 2 2) [x, y] := by
  refine ⟨.inr ⟨w.heap.size, 2, 2, fun i => if i = 0 then vI x else vI y, rfl, Nat.le_refl _, Nat.le_refl _, ⟨#[.int .i64 x, .int .i64 y], World.alloc_heap_new w _, rfl, fun i hi => ?_⟩, fun i hi => ?_⟩, (fun g hg => ?_), by simp, fun i hi => ?_⟩
  · obtain rfl | rfl : i = 0 ∨ i = 1 := by omega
    all_goals rfl
  · obtain rfl | rfl : i = 0 ∨ i = 1 := by simp at hi; omega
    all_goals rfl
  · have hg : some w.heap.size = some g := hg
    injection hg with hg
    subst hg
    exact hS
  · obtain rfl | rfl : i = 0 ∨ i = 1 := by simp at hi; omega
    · exact hx
    · exact hy
theorem IV.old {S : Nat → Prop} {w : World} {v : Value} {xs : List Int} (h : IV S w v xs) : IV (fun k => S k ∧ k < w.heap.size) w v xs := ⟨h.1, fun g hg => ⟨h.2.1 g hg, h.lt g hg⟩, h.2.2⟩
theorem RV.old {S : Nat → Prop} {w : World} {v : Value} {rs : List (List Int)} (h : RV S w v rs) : RV (fun k => S k ∧ k < w.heap.size) w v rs := by
  have hb := h.1.blk9
  obtain ⟨⟨cells, h1, h2, h3⟩, h4⟩ := h
  refine ⟨⟨cells, h1, fun g hg => ⟨h2 g hg, (hb g hg).2⟩, fun i hi => ?_⟩, h4⟩
  obtain ⟨cv, q1, q2, q3⟩ := h3 i hi
  exact ⟨cv, q1, q2, fun g hg => ⟨q3 g hg, q2.lt9 g hg⟩⟩
theorem CA.old {L base : Nat} {S : Nat → Prop} {w : World} {v : Value} {cs : List Con} (h : CA L base S w v cs) : CA L base (fun k => S k ∧ k < w.heap.size) w v cs := by
  obtain ⟨cells, h1, h2⟩ := h
  refine ⟨cells, h1, fun i hi => ?_⟩
  obtain ⟨vv, va, vr, e0, e1, e2, e3, e4, q1, q2, q3, q4⟩ := h2 i hi
  exact ⟨vv, va, vr, e0, e1, e2, e3, e4, q1.old, q2.old, q3.old, q4⟩
theorem CA.own9 {L base : Nat} {S : Nat → Prop} {w : World} {v : Value} {cs : List Con} (h : CA L base S w v cs) : ∀ g, v.ownBlock = some g → base ≤ g ∧ g < w.heap.size := by
  obtain ⟨cells, h1, -⟩ := h
  exact fun g hg => World.ownsRow.lt h1 g hg
theorem MF.model {A B : Nat} {lo hi : Int} {w : World} {dv cv : Value} {n : Nat} {cs : List Con} (h : MF A B lo hi w dv cv n cs) (hlo : -100000 ≤ lo) (hhi : hi ≤ 100000) (hc : cs.length ≤ 1000) : ∃ ds, ds.length = n ∧ SInts w dv ds ∧ SCons w cv cs := by
  obtain ⟨xs, h1, h2, -⟩ := LN.iv (.inr h.ds) (by have := h.n4; omega) hlo hhi
  exact ⟨xs, h1, h2.ints, h.ca.cons (by omega)⟩
end Go.Proofs.YtgpbmggfpbebmaaGreat
