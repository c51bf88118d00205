/- The law's own regular constraint: two rows that grow side by side, held by a model and a constraint. -/
import Derived.Test.YtachgijdopfghaaCum
namespace Go.Proofs.Ytachgijdopfghaa
open Go.RowKit

/-- The two rows and the cells that hold them: m is the model's block, c the constraint's. -/
structure RgSt (w0 : World) (m c : Nat) (va vr vd vv : Value) (ds vs : List Int) (W : World) : Prop where
  d : AppI w0.heap.size W vd ds
  v : AppI w0.heap.size W vv vs
  dv : ∀ g, vd.ownBlock = some g → g ≠ m ∧ g ≠ c ∧ vv.ownBlock ≠ some g
  vo : ∀ g, vv.ownBlock = some g → g ≠ m ∧ g ≠ c ∧ vd.ownBlock ≠ some g
  m0 : W.cell? ⟨m, 0, none⟩ = some vd
  m1 : W.cell? ⟨m, 1, none⟩ = some (.slice none 0 0)
  c0 : W.cell? ⟨c, 0, none⟩ = some (.int .i64 8)
  c1 : W.cell? ⟨c, 1, none⟩ = some vv
  c2 : W.cell? ⟨c, 2, none⟩ = some va
  c3 : W.cell? ⟨c, 3, none⟩ = some (.int .i64 0)
  c4 : W.cell? ⟨c, 4, none⟩ = some vr
  zm : W.frozen? ⟨m, 0, none⟩ = false
  zn : W.frozen? ⟨m, 1, none⟩ = false
  zv : W.frozen? ⟨c, 1, none⟩ = false
  lm : m < W.heap.size
  lc : c < W.heap.size
  gm : w0.heap.size ≤ m
  gc : w0.heap.size ≤ c
  ne : m ≠ c
  ext : Ext w0 W
theorem RgSt.keep {w0 : World} {m c : Nat} {va vr vd vv : Value} {ds vs : List Int} {W W' : World} {S : Nat → Prop} (h : RgSt w0 m c va vr vd vv ds vs W) (k : Keep S W W') (hm : S m) (hc : S c)
    (h0 : ∀ g, g < w0.heap.size → S g) (hd : ∀ g, vd.ownBlock = some g → S g) (hv : ∀ g, vv.ownBlock = some g → S g) : RgSt w0 m c va vr vd vv ds vs W' :=
  ⟨h.d.keep k hd, h.v.keep k hv, h.dv, h.vo, (k.cell (p := ⟨m, 0, none⟩) h.lm hm).trans h.m0, (k.cell (p := ⟨m, 1, none⟩) h.lm hm).trans h.m1,
   (k.cell (p := ⟨c, 0, none⟩) h.lc hc).trans h.c0, (k.cell (p := ⟨c, 1, none⟩) h.lc hc).trans h.c1, (k.cell (p := ⟨c, 2, none⟩) h.lc hc).trans h.c2, (k.cell (p := ⟨c, 3, none⟩) h.lc hc).trans h.c3, (k.cell (p := ⟨c, 4, none⟩) h.lc hc).trans h.c4,
   (k.frz (p := ⟨m, 0, none⟩) h.lm hm).trans h.zm, (k.frz (p := ⟨m, 1, none⟩) h.lm hm).trans h.zn, (k.frz (p := ⟨c, 1, none⟩) h.lc hc).trans h.zv,
   Nat.lt_of_lt_of_le h.lm k.size, Nat.lt_of_lt_of_le h.lc k.size, h.gm, h.gc, h.ne, Below.trans h.ext (k.below h.ext.size h0)⟩
theorem RgSt.grow {w0 : World} {m c : Nat} {va vr vd vv : Value} {ds vs : List Int} {W W' : World} (h : RgSt w0 m c va vr vd vv ds vs W) (hx : Ext W W') : RgSt w0 m c va vr vd vv ds vs W' :=
  h.keep (hx.keep (fun _ => True)) trivial trivial (fun _ _ => trivial) (fun _ _ => trivial) (fun _ _ => trivial)
theorem RgSt.addD {w0 : World} {m c : Nat} {va vr vd vv vd' : Value} {ds vs : List Int} {W W' : World} {x : Int} (h : RgSt w0 m c va vr vd vv ds vs W)
    (hA : AppI w0.heap.size W' vd' (ds ++ [x])) (hg : W.grownBy W' vd.ownBlock) (ho : ∀ g, vd'.ownBlock = some g → vd.ownBlock = some g ∨ W.heap.size ≤ g) : RgSt w0 m c va vr vd' vv (ds ++ [x]) vs (W'.setCell ⟨m, 0, none⟩ vd') := by
  have k := Keep.of_grown hg
  have k2 : Keep (fun g => vd.ownBlock ≠ some g ∧ g ≠ m) W (W'.setCell ⟨m, 0, none⟩ vd') := (k.mono (fun _ _ t => t.1)).set (fun _ t => t.2 rfl) _
  have hmv : vd.ownBlock ≠ some m := fun e => (h.dv m e).1 rfl
  have hcv : vd.ownBlock ≠ some c := fun e => (h.dv c e).2.1 rfl
  have lt3 := fun g e => (World.ownsRow.lt h.v g e)
  have hlt : ∀ g, vd.ownBlock = some g → w0.heap.size ≤ g := fun g e => (World.ownsRow.lt h.d g e).1
  have kmk : Keep (fun g => g ≠ m) W' (W'.setCell ⟨m, 0, none⟩ vd') := (Keep.refl _ W').set (fun _ t => t rfl) _
  have dv' : ∀ g, vd'.ownBlock = some g → g ≠ m ∧ g ≠ c ∧ vv.ownBlock ≠ some g := fun g e => (ho g e).elim (h.dv g) (fun hge => ⟨by have := h.lm; omega, by have := h.lc; omega, fun e => by have := (lt3 g e).2; omega⟩)
  refine ⟨hA.keep kmk (fun g e => (dv' g e).1), h.v.keep k2 (fun g e => ⟨fun e2 => (h.dv g e2).2.2 e, (h.vo g e).1⟩), dv',
    fun g e => ⟨(h.vo g e).1, (h.vo g e).2.1, fun e2 => (dv' g e2).2.2 e⟩,
    World.cell?_setCell_same' _ _ _ (by rw [k.cell (p := ⟨m, 0, none⟩) h.lm hmv, h.m0]; rfl),
    (World.cell?_setCell_other _ _ _ _ (by simp)).trans ((k.cell (p := ⟨m, 1, none⟩) h.lm hmv).trans h.m1),
    (k2.cell (p := ⟨c, 0, none⟩) h.lc ⟨hcv, h.ne.symm⟩).trans h.c0, (k2.cell (p := ⟨c, 1, none⟩) h.lc ⟨hcv, h.ne.symm⟩).trans h.c1, (k2.cell (p := ⟨c, 2, none⟩) h.lc ⟨hcv, h.ne.symm⟩).trans h.c2, (k2.cell (p := ⟨c, 3, none⟩) h.lc ⟨hcv, h.ne.symm⟩).trans h.c3, (k2.cell (p := ⟨c, 4, none⟩) h.lc ⟨hcv, h.ne.symm⟩).trans h.c4,
    (World.frozen?_setCell ..).trans ((k.frz (p := ⟨m, 0, none⟩) h.lm hmv).trans h.zm), (World.frozen?_setCell ..).trans ((k.frz (p := ⟨m, 1, none⟩) h.lm hmv).trans h.zn),
    (k2.frz (p := ⟨c, 1, none⟩) h.lc ⟨hcv, h.ne.symm⟩).trans h.zv,
    Nat.lt_of_lt_of_le h.lm k2.size, Nat.lt_of_lt_of_le h.lc k2.size, h.gm, h.gc, h.ne,
    Below.trans h.ext (k2.below h.ext.size (fun g hg => ⟨fun e => by have := hlt g e; omega, by have := h.gm; omega⟩))⟩
theorem RgSt.addV {w0 : World} {m c : Nat} {va vr vd vv vx : Value} {ds vs : List Int} {W W' : World} {x : Int} (h : RgSt w0 m c va vr vd vv ds vs W)
    (hA : AppI w0.heap.size W' vx (vs ++ [x])) (hg : W.grownBy W' vv.ownBlock) (ho : ∀ g, vx.ownBlock = some g → vv.ownBlock = some g ∨ W.heap.size ≤ g) : RgSt w0 m c va vr vd vx ds (vs ++ [x]) (W'.setCell ⟨c, 1, none⟩ vx) := by
  have k := Keep.of_grown hg
  have k2 : Keep (fun g => vv.ownBlock ≠ some g ∧ g ≠ c) W (W'.setCell ⟨c, 1, none⟩ vx) := (k.mono (fun _ _ t => t.1)).set (fun _ t => t.2 rfl) _
  have hmv : vv.ownBlock ≠ some m := fun e => (h.vo m e).1 rfl
  have hcv : vv.ownBlock ≠ some c := fun e => (h.vo c e).2.1 rfl
  have lt3 := fun g e => (World.ownsRow.lt h.d g e)
  have hlt : ∀ g, vv.ownBlock = some g → w0.heap.size ≤ g := fun g e => (World.ownsRow.lt h.v g e).1
  have kmk : Keep (fun g => g ≠ c) W' (W'.setCell ⟨c, 1, none⟩ vx) := (Keep.refl _ W').set (fun _ t => t rfl) _
  have dv' : ∀ g, vx.ownBlock = some g → g ≠ m ∧ g ≠ c ∧ vd.ownBlock ≠ some g := fun g e => (ho g e).elim (h.vo g) (fun hge => ⟨by have := h.lm; omega, by have := h.lc; omega, fun e => by have := (lt3 g e).2; omega⟩)
  have cc : ∀ j, j ≠ 1 → (W'.setCell ⟨c, 1, none⟩ vx).cell? ⟨c, j, none⟩ = W.cell? ⟨c, j, none⟩ := fun j hj => (World.cell?_setCell_other _ _ _ _ (by intro e; injection e with _ e; exact hj e.symm)).trans (k.cell (p := ⟨c, j, none⟩) h.lc hcv)
  have cs : (W'.setCell ⟨c, 1, none⟩ vx).cell? ⟨c, 1, none⟩ = some vx := World.cell?_setCell_same' _ _ _ (by rw [k.cell (p := ⟨c, 1, none⟩) h.lc hcv, h.c1]; rfl)
  exact {
    d := h.d.keep k2 (fun g e => ⟨fun e2 => (h.vo g e2).2.2 e, (h.dv g e).2.1⟩)
    v := hA.keep kmk (fun g e => (dv' g e).2.1)
    dv := fun g e => ⟨(h.dv g e).1, (h.dv g e).2.1, fun e2 => (dv' g e2).2.2 e⟩
    vo := dv'
    m0 := (k2.cell (p := ⟨m, 0, none⟩) h.lm ⟨hmv, h.ne⟩).trans h.m0
    m1 := (k2.cell (p := ⟨m, 1, none⟩) h.lm ⟨hmv, h.ne⟩).trans h.m1
    c0 := (cc 0 (by omega)).trans h.c0
    c1 := cs
    c2 := (cc 2 (by omega)).trans h.c2
    c3 := (cc 3 (by omega)).trans h.c3
    c4 := (cc 4 (by omega)).trans h.c4
    zm := (k2.frz (p := ⟨m, 0, none⟩) h.lm ⟨hmv, h.ne⟩).trans h.zm
    zn := (k2.frz (p := ⟨m, 1, none⟩) h.lm ⟨hmv, h.ne⟩).trans h.zn
    zv := (World.frozen?_setCell ..).trans ((k.frz (p := ⟨c, 1, none⟩) h.lc hcv).trans h.zv)
    lm := Nat.lt_of_lt_of_le h.lm k2.size
    lc := Nat.lt_of_lt_of_le h.lc k2.size
    gm := h.gm
    gc := h.gc
    ne := h.ne
    ext := Below.trans h.ext (k2.below h.ext.size (fun g hg => ⟨fun e => by have := hlt g e; omega, by have := h.gc; omega⟩)) }
theorem RgSt.start (w0 : World) (t t' : TypeId) (va vr : Value) : RgSt w0 w0.heap.size (w0.heap.size + 1) va vr (.slice none 0 0) (.slice none 0 0) [] [] ((w0.alloc (.cells #[.slice none 0 0, .slice none 0 0] t)).alloc (.cells #[.int .i64 8, .slice none 0 0, va, .int .i64 0, vr] t')) := by
  have hx1 : Ext w0 (w0.alloc (.cells #[.slice none 0 0, .slice none 0 0] t)) := (Ext.refl w0).alloc _
  have hx2 : Ext (w0.alloc (.cells #[.slice none 0 0, .slice none 0 0] t)) ((w0.alloc (.cells #[.slice none 0 0, .slice none 0 0] t)).alloc (.cells #[.int .i64 8, .slice none 0 0, va, .int .i64 0, vr] t')) := (Ext.refl _).alloc _
  have hs : (w0.alloc (.cells #[.slice none 0 0, .slice none 0 0] t)).heap.size = w0.heap.size + 1 := by simp
  have at2 : ∀ j (u : Value), #[Value.int .i64 8, .slice none 0 0, va, .int .i64 0, vr][j]? = some u → ((w0.alloc (.cells #[.slice none 0 0, .slice none 0 0] t)).alloc (.cells #[.int .i64 8, .slice none 0 0, va, .int .i64 0, vr] t')).cell? ⟨w0.heap.size + 1, j, none⟩ = some u := fun j u hu => by
    rw [← hs]; exact (World.cell?_alloc_at _ _ _ _ rfl).trans hu
  exact ⟨AppI.nil_ _ _, AppI.nil_ _ _, (fun g hg => by cases hg), (fun g hg => by cases hg), (hx2.cells _ _ (by simp)).trans (World.cell?_alloc_at _ _ _ _ rfl), (hx2.cells _ _ (by simp)).trans (World.cell?_alloc_at _ _ _ _ rfl),
    at2 0 _ rfl, at2 1 _ rfl, at2 2 _ rfl, at2 3 _ rfl, at2 4 _ rfl, (hx2.frz _ _ (by simp)).trans (World.frozen?_alloc_new _ _ _ _), (hx2.frz _ _ (by simp)).trans (World.frozen?_alloc_new _ _ _ _), (by rw [← hs]; exact World.frozen?_alloc_new _ _ _ _), by simp; omega, by simp, Nat.le_refl _, by omega, by omega, hx1.trans hx2⟩
theorem RgSt.roomD {w0 : World} {m c : Nat} {va vr vd vv : Value} {ds vs : List Int} {W W' : World} (h : RgSt w0 m c va vr vd vv ds vs W) (hg : W.grownBy W' vd.ownBlock) : W'.cell? ⟨m, 0, none⟩ = some vd ∧ W'.frozen? ⟨m, 0, none⟩ = false :=
  ⟨((Keep.of_grown hg).cell (p := ⟨m, 0, none⟩) h.lm (fun e => (h.dv m e).1 rfl)).trans h.m0, ((Keep.of_grown hg).frz (p := ⟨m, 0, none⟩) h.lm (fun e => (h.dv m e).1 rfl)).trans h.zm⟩
theorem RgSt.roomV {w0 : World} {m c : Nat} {va vr vd vv : Value} {ds vs : List Int} {W W' : World} (h : RgSt w0 m c va vr vd vv ds vs W) (hg : W.grownBy W' vv.ownBlock) : W'.cell? ⟨c, 1, none⟩ = some vv ∧ W'.frozen? ⟨c, 1, none⟩ = false :=
  ⟨((Keep.of_grown hg).cell (p := ⟨c, 1, none⟩) h.lc (fun e => (h.vo c e).2.1 rfl)).trans h.c1, ((Keep.of_grown hg).frz (p := ⟨c, 1, none⟩) h.lc (fun e => (h.vo c e).2.1 rfl)).trans h.zv⟩
end Go.Proofs.Ytachgijdopfghaa
