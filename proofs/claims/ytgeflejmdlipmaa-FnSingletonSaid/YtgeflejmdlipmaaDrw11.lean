/- Draws of the generator: a constraint in the making. -/
import Derived.Test.YtgeflejmdlipmaaDrw10
import Derived.Test.YtgeflejmdlipmaaConsA
namespace Go.Proofs.Ytgeflejmdlipmaa
open Go.RowKit

/-- v is a constraint whose lists lie in blocks that S names. -/
def CV (S : Nat → Prop) (w : World) (v : Value) (c : Con) : Prop :=
  ∃ vv va vr, v = .agg #[.int .i64 c.kk, vv, va, .int .i64 c.bound, vr] ∧ IV S w vv c.vars ∧ IV S w va c.args ∧ RV S w vr c.rows
theorem CV.keep {S T : Nat → Prop} {w w' : World} {v : Value} {c : Con} (h : CV S w v c) (hk : Keep T w w') (hS : ∀ k, S k → T k) : CV S w' v c := by
  obtain ⟨vv, va, vr, rfl, h1, h2, h3⟩ := h
  exact ⟨vv, va, vr, rfl, h1.keep hk hS, h2.keep hk hS, h3.keep hk hS⟩
theorem CV.mono {S T : Nat → Prop} {w : World} {v : Value} {c : Con} (h : CV S w v c) (hS : ∀ k, S k → T k) : CV T w v c := by
  obtain ⟨vv, va, vr, rfl, h1, h2, h3⟩ := h
  exact ⟨vv, va, vr, rfl, h1.mono hS, h2.mono hS, h3.mono hS⟩
/-- A constraint came. -/
def CGot (w0 : World) (br N : Nat) (W : World) (e : Ending) (W' : World) : Prop :=
  ∃ v c, e = .returned v ∧ (0 < c.vars.length ∧ c.vars.length ≤ 99 ∧ c.args.length ≤ 99) ∧ CV (fun k => W.heap.size ≤ k) W' v c ∧ RdSt w0 br N W' ∧ Keep (fun k => k ≠ br) W W'
/-- A constraint in the making: it lies in block bc. -/
structure CB (w0 : World) (br bc N : Nat) (W wr : World) (c : Con) (vv va vr : Value) : Prop where
  c0 : wr.cell? ⟨bc, 0, none⟩ = some (.int .i64 c.kk)
  c1 : wr.cell? ⟨bc, 1, none⟩ = some vv
  c2 : wr.cell? ⟨bc, 2, none⟩ = some va
  c3 : wr.cell? ⟨bc, 3, none⟩ = some (.int .i64 c.bound)
  c4 : wr.cell? ⟨bc, 4, none⟩ = some vr
  fz : ∀ i, wr.frozen? ⟨bc, i, none⟩ = false
  iv : IV (fun k => W.heap.size ≤ k ∧ k ≠ bc) wr vv c.vars
  ia : IV (fun k => W.heap.size ≤ k ∧ k ≠ bc) wr va c.args
  ir : RV (fun k => W.heap.size ≤ k ∧ k ≠ bc) wr vr c.rows
  nv : 0 < c.vars.length
  b0 : W.heap.size ≤ bc
  b1 : bc < wr.heap.size
  rd : RdSt w0 br N wr
  kp : Keep (fun k => k ≠ br) W wr
  br0 : br < W.heap.size
  w00 : w0.heap.size ≤ W.heap.size
theorem CB.keep {w0 : World} {br bc N M : Nat} {W wr w2 : World} {c : Con} {vv va vr : Value} (h : CB w0 br bc N W wr c vv va vr) (hR : RdSt w0 br M w2) (hK : Keep (fun k => k ≠ br) wr w2) : CB w0 br bc M W w2 c vv va vr := by
  have hb : bc ≠ br := by have := h.b0; have := h.br0; omega
  have hS : ∀ k, (W.heap.size ≤ k ∧ k ≠ bc) → k ≠ br := fun k hk => by have := h.br0; omega
  exact ⟨(hK.cell (p := ⟨bc, 0, none⟩) h.b1 hb).trans h.c0, (hK.cell (p := ⟨bc, 1, none⟩) h.b1 hb).trans h.c1, (hK.cell (p := ⟨bc, 2, none⟩) h.b1 hb).trans h.c2, (hK.cell (p := ⟨bc, 3, none⟩) h.b1 hb).trans h.c3,
    (hK.cell (p := ⟨bc, 4, none⟩) h.b1 hb).trans h.c4, fun i => (hK.frz (p := ⟨bc, i, none⟩) h.b1 hb).trans (h.fz i), h.iv.keep hK hS, h.ia.keep hK hS, h.ir.keep hK hS, h.nv, h.b0, Nat.lt_of_lt_of_le h.b1 hK.size, hR, h.kp.trans hK, h.br0, h.w00⟩
theorem CB.grow {w0 : World} {br bc N : Nat} {W wr w2 : World} {c : Con} {vv va vr : Value} (h : CB w0 br bc N W wr c vv va vr) (hx : Ext wr w2) : CB w0 br bc N W w2 c vv va vr := h.keep (h.rd.grow hx) (hx.keep _)
/-- A field is set. -/
theorem CB.set {w0 : World} {br bc N i : Nat} {W wr : World} {c c' : Con} {vv va vr vv' va' vr' u : Value} (h : CB w0 br bc N W wr c vv va vr)
    (h0 : (wr.setCell ⟨bc, i, none⟩ u).cell? ⟨bc, 0, none⟩ = some (.int .i64 c'.kk)) (h1 : (wr.setCell ⟨bc, i, none⟩ u).cell? ⟨bc, 1, none⟩ = some vv') (h2 : (wr.setCell ⟨bc, i, none⟩ u).cell? ⟨bc, 2, none⟩ = some va')
    (h3 : (wr.setCell ⟨bc, i, none⟩ u).cell? ⟨bc, 3, none⟩ = some (.int .i64 c'.bound)) (h4 : (wr.setCell ⟨bc, i, none⟩ u).cell? ⟨bc, 4, none⟩ = some vr')
    (k1 : IV (fun k => W.heap.size ≤ k ∧ k ≠ bc) wr vv' c'.vars) (k2 : IV (fun k => W.heap.size ≤ k ∧ k ≠ bc) wr va' c'.args) (k3 : RV (fun k => W.heap.size ≤ k ∧ k ≠ bc) wr vr' c'.rows) (k4 : 0 < c'.vars.length) :
    CB w0 br bc N W (wr.setCell ⟨bc, i, none⟩ u) c' vv' va' vr' := by
  have hK : Keep (fun k => k ≠ bc) wr (wr.setCell ⟨bc, i, none⟩ u) := (Keep.refl _ wr).set (p := ⟨bc, i, none⟩) (fun _ hh => hh rfl) u
  exact ⟨h0, h1, h2, h3, h4, fun j => (World.frozen?_setCell ..).trans (h.fz j), k1.keep hK (fun k hk => hk.2), k2.keep hK (fun k hk => hk.2), k3.keep hK (fun k hk => hk.2), k4, h.b0, by simpa [World.setCell] using h.b1,
    h.rd.keep hK (by have := h.b0; have := h.br0; omega) (fun k hk => by have := h.b0; have := h.w00; omega), h.kp.trans9 hK (fun k hk _ => by have := h.b0; omega), h.br0, h.w00⟩
theorem CB.set0 {w0 : World} {br bc N : Nat} {W wr : World} {c : Con} {vv va vr : Value} (h : CB w0 br bc N W wr c vv va vr) (k : Int) : CB w0 br bc N W (wr.setCell ⟨bc, 0, none⟩ (.int .i64 k)) { c with kk := k } vv va vr :=
  h.set (World.cell?_setCell_same' _ _ _ (by rw [h.c0]; rfl)) ((World.cell?_setCell_other _ _ _ _ (by simp)).trans h.c1) ((World.cell?_setCell_other _ _ _ _ (by simp)).trans h.c2) ((World.cell?_setCell_other _ _ _ _ (by simp)).trans h.c3) ((World.cell?_setCell_other _ _ _ _ (by simp)).trans h.c4) h.iv h.ia h.ir h.nv
theorem CB.set1 {w0 : World} {br bc N : Nat} {W wr : World} {c : Con} {vv va vr u : Value} {xs : List Int} (h : CB w0 br bc N W wr c vv va vr) (hu : IV (fun k => W.heap.size ≤ k ∧ k ≠ bc) wr u xs) (hl : 0 < xs.length) : CB w0 br bc N W (wr.setCell ⟨bc, 1, none⟩ u) { c with vars := xs } u va vr :=
  h.set ((World.cell?_setCell_other _ _ _ _ (by simp)).trans h.c0) (World.cell?_setCell_same' _ _ _ (by rw [h.c1]; rfl)) ((World.cell?_setCell_other _ _ _ _ (by simp)).trans h.c2) ((World.cell?_setCell_other _ _ _ _ (by simp)).trans h.c3) ((World.cell?_setCell_other _ _ _ _ (by simp)).trans h.c4) hu h.ia h.ir hl
theorem CB.set2 {w0 : World} {br bc N : Nat} {W wr : World} {c : Con} {vv va vr u : Value} {xs : List Int} (h : CB w0 br bc N W wr c vv va vr) (hu : IV (fun k => W.heap.size ≤ k ∧ k ≠ bc) wr u xs) : CB w0 br bc N W (wr.setCell ⟨bc, 2, none⟩ u) { c with args := xs } vv u vr :=
  h.set ((World.cell?_setCell_other _ _ _ _ (by simp)).trans h.c0) ((World.cell?_setCell_other _ _ _ _ (by simp)).trans h.c1) (World.cell?_setCell_same' _ _ _ (by rw [h.c2]; rfl)) ((World.cell?_setCell_other _ _ _ _ (by simp)).trans h.c3) ((World.cell?_setCell_other _ _ _ _ (by simp)).trans h.c4) h.iv hu h.ir h.nv
theorem CB.set3 {w0 : World} {br bc N : Nat} {W wr : World} {c : Con} {vv va vr : Value} (h : CB w0 br bc N W wr c vv va vr) (k : Int) : CB w0 br bc N W (wr.setCell ⟨bc, 3, none⟩ (.int .i64 k)) { c with bound := k } vv va vr :=
  h.set ((World.cell?_setCell_other _ _ _ _ (by simp)).trans h.c0) ((World.cell?_setCell_other _ _ _ _ (by simp)).trans h.c1) ((World.cell?_setCell_other _ _ _ _ (by simp)).trans h.c2) (World.cell?_setCell_same' _ _ _ (by rw [h.c3]; rfl)) ((World.cell?_setCell_other _ _ _ _ (by simp)).trans h.c4) h.iv h.ia h.ir h.nv
theorem CB.set4 {w0 : World} {br bc N : Nat} {W wr : World} {c : Con} {vv va vr u : Value} {rs : List (List Int)} (h : CB w0 br bc N W wr c vv va vr) (hu : RV (fun k => W.heap.size ≤ k ∧ k ≠ bc) wr u rs) : CB w0 br bc N W (wr.setCell ⟨bc, 4, none⟩ u) { c with rows := rs } vv va u :=
  h.set ((World.cell?_setCell_other _ _ _ _ (by simp)).trans h.c0) ((World.cell?_setCell_other _ _ _ _ (by simp)).trans h.c1) ((World.cell?_setCell_other _ _ _ _ (by simp)).trans h.c2) ((World.cell?_setCell_other _ _ _ _ (by simp)).trans h.c3) (World.cell?_setCell_same' _ _ _ (by rw [h.c4]; rfl)) h.iv h.ia hu h.nv
theorem CB.start {w0 : World} {br N : Nat} {W w3 : World} {vv : Value} {xs : List Int} (K : Int) (t : TypeId) (hv : IV (fun k => W.heap.size ≤ k) w3 vv xs) (hvb : ∀ g, vv.ownBlock = some g → g < w3.heap.size) (hl : 0 < xs.length) (hb : W.heap.size ≤ w3.heap.size) (hR : RdSt w0 br N w3) (hK : Keep (fun k => k ≠ br) W w3) (hbr : br < W.heap.size) (hw : w0.heap.size ≤ W.heap.size) :
    CB w0 br w3.heap.size N W (w3.alloc (.cells #[.int .i64 K, vv, .slice none 0 0, .int .i64 0, .slice none 0 0] t)) ⟨K, xs, [], 0, []⟩ vv (.slice none 0 0) (.slice none 0 0) := by
  have hx : Ext w3 (w3.alloc (.cells #[.int .i64 K, vv, .slice none 0 0, .int .i64 0, .slice none 0 0] t)) := (Ext.refl w3).alloc _
  exact ⟨World.cell?_alloc_at _ _ _ _ rfl, World.cell?_alloc_at _ _ _ _ rfl, World.cell?_alloc_at _ _ _ _ rfl, World.cell?_alloc_at _ _ _ _ rfl, World.cell?_alloc_at _ _ _ _ rfl, fun i => World.frozen?_alloc_new _ _ _ _,
    ⟨(hv.ext hx).1, fun g hg => ⟨hv.2.1 g hg, by have := hvb g hg; omega⟩, hv.2.2⟩, IV.nil_ _ _, RV.nil_ _ _, hl, hb, by simp, hR.grow hx, hK.trans (hx.keep _), hbr, hw⟩
/-- A block of n cells that may be written. -/
def RB (rb n : Nat) (w : World) : Prop := rb < w.heap.size ∧ (∀ i, w.frozen? ⟨rb, i, none⟩ = false) ∧ ∀ i, i < n → ∃ u, w.cell? ⟨rb, i, none⟩ = some u
theorem RB.keep {rb n : Nat} {S : Nat → Prop} {w w' : World} (h : RB rb n w) (hk : Keep S w w') (hS : S rb) : RB rb n w' :=
  ⟨Nat.lt_of_lt_of_le h.1 hk.size, fun i => (hk.frz (p := ⟨rb, i, none⟩) h.1 hS).trans (h.2.1 i), fun i hi => by obtain ⟨u, hu⟩ := h.2.2 i hi; exact ⟨u, (hk.cell (p := ⟨rb, i, none⟩) h.1 hS).trans hu⟩⟩
theorem RB.five {rb : Nat} {w : World} (h : RB rb 5 w) : rb < w.heap.size ∧ ∃ u0 u1 u2 u3 u4, w.cell? ⟨rb, 0, none⟩ = some u0 ∧ w.cell? ⟨rb, 1, none⟩ = some u1 ∧ w.cell? ⟨rb, 2, none⟩ = some u2 ∧ w.cell? ⟨rb, 3, none⟩ = some u3 ∧ w.cell? ⟨rb, 4, none⟩ = some u4 ∧
    w.frozen? ⟨rb, 0, none⟩ = false ∧ w.frozen? ⟨rb, 1, none⟩ = false ∧ w.frozen? ⟨rb, 2, none⟩ = false ∧ w.frozen? ⟨rb, 3, none⟩ = false ∧ w.frozen? ⟨rb, 4, none⟩ = false := by
  obtain ⟨h1, h2, h3⟩ := h
  obtain ⟨u0, a0⟩ := h3 0 (by omega)
  obtain ⟨u1, a1⟩ := h3 1 (by omega)
  obtain ⟨u2, a2⟩ := h3 2 (by omega)
  obtain ⟨u3, a3⟩ := h3 3 (by omega)
  obtain ⟨u4, a4⟩ := h3 4 (by omega)
  exact ⟨h1, u0, u1, u2, u3, u4, a0, a1, a2, a3, a4, h2 _, h2 _, h2 _, h2 _, h2 _⟩
/-- The constraint is copied into the block of the result. -/
theorem CB.done {w0 : World} {br bc N M rb : Nat} {W Wb wr w' : World} {c : Con} {vv va vr : Value} (h : CB w0 br bc N Wb wr c vv va vr) (hx : Ext W Wb) (hs : Wb.heap.size = W.heap.size + 1) (hr : rb = W.heap.size) (hk : Keep (fun k => k ≠ rb) wr w') (hbr : br < W.heap.size) (hw : w0.heap.size ≤ W.heap.size) (hN : N ≤ M) (hl : c.vars.length ≤ 99 ∧ c.args.length ≤ 99) :
    CGot w0 br M W (.returned (.agg #[.int .i64 c.kk, vv, va, .int .i64 c.bound, vr])) w' := by
  subst hr
  have hS : ∀ k, Wb.heap.size ≤ k ∧ k ≠ bc → k ≠ W.heap.size := fun k hk => by omega
  have hS2 : ∀ k, Wb.heap.size ≤ k ∧ k ≠ bc → W.heap.size ≤ k := fun k hk => by omega
  exact ⟨_, c, rfl, ⟨h.nv, hl⟩, ⟨vv, va, vr, rfl, (h.iv.keep hk hS).mono hS2, (h.ia.keep hk hS).mono hS2, (h.ir.keep hk hS).mono hS2⟩, (h.rd.keep hk (by omega) (fun k hk => by omega)).mono hN,
    ((hx.keep _).trans h.kp).trans9 hk (fun k hk _ => by omega)⟩
theorem IV.one (S : Nat → Prop) (w : World) (x : Int) (hS : S w.heap.size) (hx : -100000 ≤ x ∧ x ≤ 100000) : IV S (w.alloc (.cells #[.int .i64 x] 3)) (.slice (some ⟨w.heap.size, 0, none⟩) 1 1) [x] := by
  refine ⟨.inr ⟨w.heap.size, 1, 1, fun _ => vI x, rfl, Nat.le_refl _, Nat.le_refl _, ⟨#[.int .i64 x], World.alloc_heap_new w _, rfl, fun i hi => ?_⟩, fun i hi => ?_⟩, (fun g hg => ?_), by simp, fun i hi => ?_⟩
  · obtain rfl : i = 0 := by omega
    rfl
  · obtain rfl : i = 0 := by simpa using hi
    rfl
  · have hg : some w.heap.size = some g := hg
    injection hg with hg
    subst hg
    exact hS
  · obtain rfl : i = 0 := by simpa using hi
    exact hx
end Go.Proofs.Ytgeflejmdlipmaa
