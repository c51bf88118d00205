/- The law's own cumulative: three rows that grow side by side, held by a model and a constraint. -/
import Derived.Test.YtjpdebgejlfeaaaDoorConsA
import Derived.Test.YtjpdebgejlfeaaaDoorAppZ
namespace Go.Proofs.YtjpdebgejlfeaaaDoor
open Go.RowKit

theorem run_appIO (w : World) (ty : TypeId) (base : Nat) (v : Value) (xs : List Int) (x : Int) (b c : Nat) (hown : AppI base w v xs) (hc : w.cell? ⟨b, 0, none⟩ = some (.int .i64 x)) (hl : xs.length ≤ 1000000) (hb : base ≤ w.heap.size) :
    ∃ v' w', (Builtin.append_ #[24, 24] ty #[v, .slice (some ⟨b, 0, none⟩) 1 c]).run Tryd.prog w = .ok v' w' ∧ AppI base w' v' (xs ++ [x]) ∧ w.grownBy w' v.ownBlock ∧ (∀ g, v'.ownBlock = some g → v.ownBlock = some g ∨ w.heap.size ≤ g) := by
  obtain ⟨i, hi, hz, hsz, hby⟩ := Tryd.infoIp
  obtain ⟨v', w', e1, e2, e3, e4⟩ := run_append_kind (P := Tryd.prog) w base 24 ty 3 i (.int .i64 0) 8 Tryd.underlying24 hi hz hsz hby rfl v xs.length (xs.map vI) hown b c (.int .i64 x) hc rfl (by unfold maxLen; omega) (by omega) hb
  exact ⟨v', w', e1, by unfold AppI; simpa [vI] using e2, e3, e4⟩
theorem step_appIO (w : World) {ops : Array Oper} {o : Oper} {a : Act} {K : Act → World → Prop} {Q : Exit → Act → World → Prop} {E : Prop} (hgd : o.guard = none) (s y : Operand)
    (ho : o.op = .call { callee := .builtin .append, args := #[s, y], argTypes := #[24, 24] })
    (base : Nat) (v : Value) (xs : List Int) (x : Int) (b c : Nat) (hs : a.eval s = v) (hy : a.eval y = .slice (some ⟨b, 0, none⟩) 1 c)
    (hown : AppI base w v xs) (hc : w.cell? ⟨b, 0, none⟩ = some (.int .i64 x)) (hl : xs.length ≤ 1000000) (hb : base ≤ w.heap.size)
    (h : ∀ v' w', AppI base w' v' (xs ++ [x]) → w.grownBy w' v.ownBlock → (∀ g, v'.ownBlock = some g → v.ownBlock = some g ∨ w.heap.size ≤ g) → K (a.put o.dst v') w') :
    if Region.wanted o (yielded ops a.tmps) = true then Oper.wp Tryd.prog o a w K Q else E := by
  have hw : Region.wanted o (yielded ops a.tmps) = true := by simp [Region.wanted, hgd]
  rw [if_pos hw]
  obtain ⟨v', w', hrun, h1, h2, h3⟩ := run_appIO w o.type base v xs x b c hown hc hl hb
  unfold Oper.wp
  simp [execOp, ho, resolve, invoke, builtin, hs, hy, hrun, Result.andThen]
  exact h v' w' h1 h2 h3
theorem wpList_appIO (w : World) {ops : Array Oper} {rest : List Oper} {o : Oper} {a : Act} {Q : Exit → Act → World → Prop} (hgd : o.guard = none) (s y : Operand)
    (ho : o.op = .call { callee := .builtin .append, args := #[s, y], argTypes := #[24, 24] })
    (base : Nat) (v : Value) (xs : List Int) (x : Int) (b c : Nat) (hs : a.eval s = v) (hy : a.eval y = .slice (some ⟨b, 0, none⟩) 1 c)
    (hown : AppI base w v xs) (hc : w.cell? ⟨b, 0, none⟩ = some (.int .i64 x)) (hl : xs.length ≤ 1000000) (hb : base ≤ w.heap.size)
    (h : ∀ v' w', AppI base w' v' (xs ++ [x]) → w.grownBy w' v.ownBlock → (∀ g, v'.ownBlock = some g → v.ownBlock = some g ∨ w.heap.size ≤ g) → wpList Tryd.prog ops Q rest (a.put o.dst v') w') : wpList Tryd.prog ops Q (o :: rest) a w := by
  obtain ⟨v', w', hrun, h1, h2, h3⟩ := run_appIO w o.type base v xs x b c hown hc hl hb
  refine wpList_plain hgd fun K hK => ?_
  unfold Oper.wp
  simp [execOp, ho, resolve, invoke, builtin, hs, hy, hrun, Result.andThen]
  exact hK _ _ (h v' w' h1 h2 h3)
theorem AppI.keep {base : Nat} {S : Nat → Prop} {w w' : World} {v : Value} {xs : List Int} (h : AppI base w v xs) (hk : Keep S w w') (hS : ∀ g, v.ownBlock = some g → S g) : AppI base w' v xs := by
  refine ⟨h.1, ?_⟩
  rcases h.2 with hn | ⟨g, cap, cur, e, hb, hgg, rest⟩
  · exact .inl hn
  · exact .inr ⟨g, cap, cur, e, hb, (hk.block g (Array.getElem?_eq_some_iff.1 hgg).1 (hS g (by rw [e]; rfl))).trans hgg, rest⟩
theorem AppI.sints {base : Nat} {w : World} {v : Value} {xs : List Int} (h : AppI base w v xs) (hl : xs.length ≤ 1000000) (hi : ∀ i, i < xs.length → I64 (at0 xs i)) : SInts w v xs := by
  rcases h.2 with ⟨h1, h2⟩ | ⟨g, cap, cur, h1, hg, hh, hnc, hm, hcs, htk⟩
  · exact ⟨none, 0, by rw [h1, h2], by omega, by omega, hi, fun hp => absurd hp (by omega)⟩
  · refine ⟨_, _, h1, hnc, by omega, hi, fun _ => ⟨g, 0, rfl, (Array.getElem?_eq_some_iff.1 hh).1, fun i hi' => ?_⟩⟩
    have e1 : (cur.toList.take (xs.length * 1))[i]? = (xs.map vI)[i]? := by rw [htk]
    rw [List.getElem?_take, if_pos (by omega), List.getElem?_map, List.getElem?_eq_getElem hi', Array.getElem?_toList] at e1
    unfold at0
    rw [getD_lt _ _ hi']
    simp [World.cell?, hh, e1, vI]
/-- The three rows and the cells that hold them: m is the model's block, c the constraint's. -/
structure CumSt (w0 : World) (m c : Nat) (cap : Int) (vd vv va : Value) (ds vs us : List Int) (W : World) : Prop where
  d : AppI w0.heap.size W vd ds
  v : AppI w0.heap.size W vv vs
  a : AppI w0.heap.size W va us
  dv : ∀ g, vd.ownBlock = some g → g ≠ m ∧ g ≠ c ∧ vv.ownBlock ≠ some g ∧ va.ownBlock ≠ some g
  vo : ∀ g, vv.ownBlock = some g → g ≠ m ∧ g ≠ c ∧ vd.ownBlock ≠ some g ∧ va.ownBlock ≠ some g
  ao : ∀ g, va.ownBlock = some g → g ≠ m ∧ g ≠ c ∧ vd.ownBlock ≠ some g ∧ vv.ownBlock ≠ some g
  m0 : W.cell? ⟨m, 0, none⟩ = some vd
  m1 : W.cell? ⟨m, 1, none⟩ = some (.slice none 0 0)
  c0 : W.cell? ⟨c, 0, none⟩ = some (.int .i64 7)
  c1 : W.cell? ⟨c, 1, none⟩ = some vv
  c2 : W.cell? ⟨c, 2, none⟩ = some va
  c3 : W.cell? ⟨c, 3, none⟩ = some (.int .i64 cap)
  c4 : W.cell? ⟨c, 4, none⟩ = some (.slice none 0 0)
  zm : W.frozen? ⟨m, 0, none⟩ = false
  zn : W.frozen? ⟨m, 1, none⟩ = false
  zv : W.frozen? ⟨c, 1, none⟩ = false
  za : W.frozen? ⟨c, 2, none⟩ = false
  lm : m < W.heap.size
  lc : c < W.heap.size
  gm : w0.heap.size ≤ m
  gc : w0.heap.size ≤ c
  ne : m ≠ c
  ext : Ext w0 W
theorem CumSt.keep {w0 : World} {m c : Nat} {cap : Int} {vd vv va : Value} {ds vs us : List Int} {W W' : World} {S : Nat → Prop} (h : CumSt w0 m c cap vd vv va ds vs us W) (k : Keep S W W') (hm : S m) (hc : S c)
    (h0 : ∀ g, g < w0.heap.size → S g) (hd : ∀ g, vd.ownBlock = some g → S g) (hv : ∀ g, vv.ownBlock = some g → S g) (ha : ∀ g, va.ownBlock = some g → S g) : CumSt w0 m c cap vd vv va ds vs us W' :=
  ⟨h.d.keep k hd, h.v.keep k hv, h.a.keep k ha, h.dv, h.vo, h.ao, (k.cell (p := ⟨m, 0, none⟩) h.lm hm).trans h.m0, (k.cell (p := ⟨m, 1, none⟩) h.lm hm).trans h.m1,
   (k.cell (p := ⟨c, 0, none⟩) h.lc hc).trans h.c0, (k.cell (p := ⟨c, 1, none⟩) h.lc hc).trans h.c1, (k.cell (p := ⟨c, 2, none⟩) h.lc hc).trans h.c2, (k.cell (p := ⟨c, 3, none⟩) h.lc hc).trans h.c3, (k.cell (p := ⟨c, 4, none⟩) h.lc hc).trans h.c4,
   (k.frz (p := ⟨m, 0, none⟩) h.lm hm).trans h.zm, (k.frz (p := ⟨m, 1, none⟩) h.lm hm).trans h.zn, (k.frz (p := ⟨c, 1, none⟩) h.lc hc).trans h.zv, (k.frz (p := ⟨c, 2, none⟩) h.lc hc).trans h.za,
   Nat.lt_of_lt_of_le h.lm k.size, Nat.lt_of_lt_of_le h.lc k.size, h.gm, h.gc, h.ne, Below.trans h.ext (k.below h.ext.size h0)⟩
theorem CumSt.grow {w0 : World} {m c : Nat} {cap : Int} {vd vv va : Value} {ds vs us : List Int} {W W' : World} (h : CumSt w0 m c cap vd vv va ds vs us W) (hx : Ext W W') : CumSt w0 m c cap vd vv va ds vs us W' :=
  h.keep (hx.keep (fun _ => True)) trivial trivial (fun _ _ => trivial) (fun _ _ => trivial) (fun _ _ => trivial) (fun _ _ => trivial)
theorem CumSt.addD {w0 : World} {m c : Nat} {cap : Int} {vd vv va vd' : Value} {ds vs us : List Int} {W W' : World} {x : Int} (h : CumSt w0 m c cap vd vv va ds vs us W)
    (hA : AppI w0.heap.size W' vd' (ds ++ [x])) (hg : W.grownBy W' vd.ownBlock) (ho : ∀ g, vd'.ownBlock = some g → vd.ownBlock = some g ∨ W.heap.size ≤ g) : CumSt w0 m c cap vd' vv va (ds ++ [x]) vs us (W'.setCell ⟨m, 0, none⟩ vd') := by
  have k := Keep.of_grown hg
  have k2 : Keep (fun g => vd.ownBlock ≠ some g ∧ g ≠ m) W (W'.setCell ⟨m, 0, none⟩ vd') := (k.mono (fun _ _ t => t.1)).set (fun _ t => t.2 rfl) _
  have hnm : ∀ g, vd.ownBlock = some g → g ≠ m := fun g e => (h.dv g e).1
  have hmv : vd.ownBlock ≠ some m := fun e => (h.dv m e).1 rfl
  have hcv : vd.ownBlock ≠ some c := fun e => (h.dv c e).2.1 rfl
  have lt3 := fun g e => (World.ownsRow.lt h.v g e)
  have lt4 := fun g e => (World.ownsRow.lt h.a g e)
  have hlt : ∀ g, vd.ownBlock = some g → w0.heap.size ≤ g := fun g e => (World.ownsRow.lt h.d g e).1
  have hm' : W'.heap.size ≥ W.heap.size := k.size
  have kmk : Keep (fun g => g ≠ m) W' (W'.setCell ⟨m, 0, none⟩ vd') := (Keep.refl _ W').set (fun _ t => t rfl) _
  have dv' : ∀ g, vd'.ownBlock = some g → g ≠ m ∧ g ≠ c ∧ vv.ownBlock ≠ some g ∧ va.ownBlock ≠ some g := fun g e => (ho g e).elim (h.dv g) (fun hge => ⟨by have := h.lm; omega, by have := h.lc; omega, fun e => by have := (lt3 g e).2; omega, fun e => by have := (lt4 g e).2; omega⟩)
  refine ⟨hA.keep kmk (fun g e => (dv' g e).1), h.v.keep k2 (fun g e => ⟨fun e2 => (h.dv g e2).2.2.1 e, (h.vo g e).1⟩), h.a.keep k2 (fun g e => ⟨fun e2 => (h.dv g e2).2.2.2 e, (h.ao g e).1⟩), dv',
    fun g e => ⟨(h.vo g e).1, (h.vo g e).2.1, fun e2 => (dv' g e2).2.2.1 e, (h.vo g e).2.2.2⟩, fun g e => ⟨(h.ao g e).1, (h.ao g e).2.1, fun e2 => (dv' g e2).2.2.2 e, (h.ao g e).2.2.2⟩,
    World.cell?_setCell_same' _ _ _ (by rw [k.cell (p := ⟨m, 0, none⟩) h.lm hmv, h.m0]; rfl),
    (World.cell?_setCell_other _ _ _ _ (by simp)).trans ((k.cell (p := ⟨m, 1, none⟩) h.lm hmv).trans h.m1),
    (k2.cell (p := ⟨c, 0, none⟩) h.lc ⟨hcv, h.ne.symm⟩).trans h.c0, (k2.cell (p := ⟨c, 1, none⟩) h.lc ⟨hcv, h.ne.symm⟩).trans h.c1, (k2.cell (p := ⟨c, 2, none⟩) h.lc ⟨hcv, h.ne.symm⟩).trans h.c2, (k2.cell (p := ⟨c, 3, none⟩) h.lc ⟨hcv, h.ne.symm⟩).trans h.c3, (k2.cell (p := ⟨c, 4, none⟩) h.lc ⟨hcv, h.ne.symm⟩).trans h.c4,
    (World.frozen?_setCell ..).trans ((k.frz (p := ⟨m, 0, none⟩) h.lm hmv).trans h.zm), (World.frozen?_setCell ..).trans ((k.frz (p := ⟨m, 1, none⟩) h.lm hmv).trans h.zn),
    (k2.frz (p := ⟨c, 1, none⟩) h.lc ⟨hcv, h.ne.symm⟩).trans h.zv, (k2.frz (p := ⟨c, 2, none⟩) h.lc ⟨hcv, h.ne.symm⟩).trans h.za,
    Nat.lt_of_lt_of_le h.lm k2.size, Nat.lt_of_lt_of_le h.lc k2.size, h.gm, h.gc, h.ne,
    Below.trans h.ext (k2.below h.ext.size (fun g hg => ⟨fun e => by have := hlt g e; omega, by have := h.gm; omega⟩))⟩
theorem CumSt.addV {w0 : World} {m c : Nat} {cap : Int} {vd vv va vx : Value} {ds vs us : List Int} {W W' : World} {x : Int} (h : CumSt w0 m c cap vd vv va ds vs us W)
    (hA : AppI w0.heap.size W' vx (vs ++ [x])) (hg : W.grownBy W' vv.ownBlock) (ho : ∀ g, vx.ownBlock = some g → vv.ownBlock = some g ∨ W.heap.size ≤ g) : CumSt w0 m c cap vd vx va ds (vs ++ [x]) us (W'.setCell ⟨c, 1, none⟩ vx) := by
  have k := Keep.of_grown hg
  have k2 : Keep (fun g => vv.ownBlock ≠ some g ∧ g ≠ c) W (W'.setCell ⟨c, 1, none⟩ vx) := (k.mono (fun _ _ t => t.1)).set (fun _ t => t.2 rfl) _
  have hmv : vv.ownBlock ≠ some m := fun e => (h.vo m e).1 rfl
  have hcv : vv.ownBlock ≠ some c := fun e => (h.vo c e).2.1 rfl
  have lt3 := fun g e => (World.ownsRow.lt h.d g e)
  have lt4 := fun g e => (World.ownsRow.lt h.a g e)
  have hlt : ∀ g, vv.ownBlock = some g → w0.heap.size ≤ g := fun g e => (World.ownsRow.lt h.v g e).1
  have kmk : Keep (fun g => g ≠ c) W' (W'.setCell ⟨c, 1, none⟩ vx) := (Keep.refl _ W').set (fun _ t => t rfl) _
  have dv' : ∀ g, vx.ownBlock = some g → g ≠ m ∧ g ≠ c ∧ vd.ownBlock ≠ some g ∧ va.ownBlock ≠ some g := fun g e => (ho g e).elim (h.vo g) (fun hge => ⟨by have := h.lm; omega, by have := h.lc; omega, fun e => by have := (lt3 g e).2; omega, fun e => by have := (lt4 g e).2; omega⟩)
  have cc : ∀ j, j ≠ 1 → (W'.setCell ⟨c, 1, none⟩ vx).cell? ⟨c, j, none⟩ = W.cell? ⟨c, j, none⟩ := fun j hj => (World.cell?_setCell_other _ _ _ _ (by intro e; injection e with _ e; exact hj e.symm)).trans (k.cell (p := ⟨c, j, none⟩) h.lc hcv)
  have cs : (W'.setCell ⟨c, 1, none⟩ vx).cell? ⟨c, 1, none⟩ = some vx := World.cell?_setCell_same' _ _ _ (by rw [k.cell (p := ⟨c, 1, none⟩) h.lc hcv, h.c1]; rfl)
  exact {
    d := h.d.keep k2 (fun g e => ⟨fun e2 => (h.vo g e2).2.2.1 e, (h.dv g e).2.1⟩)
    v := hA.keep kmk (fun g e => (dv' g e).2.1)
    a := h.a.keep k2 (fun g e => ⟨fun e2 => (h.vo g e2).2.2.2 e, (h.ao g e).2.1⟩)
    dv := fun g e => ⟨(h.dv g e).1, (h.dv g e).2.1, fun e2 => (dv' g e2).2.2.1 e, (h.dv g e).2.2.2⟩
    vo := dv'
    ao := fun g e => ⟨(h.ao g e).1, (h.ao g e).2.1, (h.ao g e).2.2.1, fun e2 => (dv' g e2).2.2.2 e⟩
    m0 := (k2.cell (p := ⟨m, 0, none⟩) h.lm ⟨hmv, h.ne⟩).trans h.m0
    m1 := (k2.cell (p := ⟨m, 1, none⟩) h.lm ⟨hmv, h.ne⟩).trans h.m1
    c0 := (cc 0 (by omega)).trans h.c0
    c1 := cs
    c2 := (cc 2 (by omega)).trans h.c2
    c3 := (cc 3 (by omega)).trans h.c3
    c4 := (cc 4 (by omega)).trans h.c4
    zm := (k2.frz (p := ⟨m, 0, none⟩) h.lm ⟨hmv, h.ne⟩).trans h.zm
    zn := (k2.frz (p := ⟨m, 1, none⟩) h.lm ⟨hmv, h.ne⟩).trans h.zn
    zv := (World.frozen?_setCell ..).trans ((k.frz (p := ⟨c, 1, none⟩) h.lc hcv).trans h.zv)
    za := (World.frozen?_setCell ..).trans ((k.frz (p := ⟨c, 2, none⟩) h.lc hcv).trans h.za)
    lm := Nat.lt_of_lt_of_le h.lm k2.size
    lc := Nat.lt_of_lt_of_le h.lc k2.size
    gm := h.gm
    gc := h.gc
    ne := h.ne
    ext := Below.trans h.ext (k2.below h.ext.size (fun g hg => ⟨fun e => by have := hlt g e; omega, by have := h.gc; omega⟩)) }
theorem CumSt.addA {w0 : World} {m c : Nat} {cap : Int} {vd vv va vx : Value} {ds vs us : List Int} {W W' : World} {x : Int} (h : CumSt w0 m c cap vd vv va ds vs us W)
    (hA : AppI w0.heap.size W' vx (us ++ [x])) (hg : W.grownBy W' va.ownBlock) (ho : ∀ g, vx.ownBlock = some g → va.ownBlock = some g ∨ W.heap.size ≤ g) : CumSt w0 m c cap vd vv vx ds vs (us ++ [x]) (W'.setCell ⟨c, 2, none⟩ vx) := by
  have k := Keep.of_grown hg
  have k2 : Keep (fun g => va.ownBlock ≠ some g ∧ g ≠ c) W (W'.setCell ⟨c, 2, none⟩ vx) := (k.mono (fun _ _ t => t.1)).set (fun _ t => t.2 rfl) _
  have hmv : va.ownBlock ≠ some m := fun e => (h.ao m e).1 rfl
  have hcv : va.ownBlock ≠ some c := fun e => (h.ao c e).2.1 rfl
  have lt3 := fun g e => (World.ownsRow.lt h.d g e)
  have lt4 := fun g e => (World.ownsRow.lt h.v g e)
  have hlt : ∀ g, va.ownBlock = some g → w0.heap.size ≤ g := fun g e => (World.ownsRow.lt h.a g e).1
  have kmk : Keep (fun g => g ≠ c) W' (W'.setCell ⟨c, 2, none⟩ vx) := (Keep.refl _ W').set (fun _ t => t rfl) _
  have dv' : ∀ g, vx.ownBlock = some g → g ≠ m ∧ g ≠ c ∧ vd.ownBlock ≠ some g ∧ vv.ownBlock ≠ some g := fun g e => (ho g e).elim (h.ao g) (fun hge => ⟨by have := h.lm; omega, by have := h.lc; omega, fun e => by have := (lt3 g e).2; omega, fun e => by have := (lt4 g e).2; omega⟩)
  have cc : ∀ j, j ≠ 2 → (W'.setCell ⟨c, 2, none⟩ vx).cell? ⟨c, j, none⟩ = W.cell? ⟨c, j, none⟩ := fun j hj => (World.cell?_setCell_other _ _ _ _ (by intro e; injection e with _ e; exact hj e.symm)).trans (k.cell (p := ⟨c, j, none⟩) h.lc hcv)
  have cs : (W'.setCell ⟨c, 2, none⟩ vx).cell? ⟨c, 2, none⟩ = some vx := World.cell?_setCell_same' _ _ _ (by rw [k.cell (p := ⟨c, 2, none⟩) h.lc hcv, h.c2]; rfl)
  exact {
    d := h.d.keep k2 (fun g e => ⟨fun e2 => (h.ao g e2).2.2.1 e, (h.dv g e).2.1⟩)
    v := h.v.keep k2 (fun g e => ⟨fun e2 => (h.ao g e2).2.2.2 e, (h.vo g e).2.1⟩)
    a := hA.keep kmk (fun g e => (dv' g e).2.1)
    dv := fun g e => ⟨(h.dv g e).1, (h.dv g e).2.1, (h.dv g e).2.2.1, fun e2 => (dv' g e2).2.2.1 e⟩
    vo := fun g e => ⟨(h.vo g e).1, (h.vo g e).2.1, (h.vo g e).2.2.1, fun e2 => (dv' g e2).2.2.2 e⟩
    ao := dv'
    m0 := (k2.cell (p := ⟨m, 0, none⟩) h.lm ⟨hmv, h.ne⟩).trans h.m0
    m1 := (k2.cell (p := ⟨m, 1, none⟩) h.lm ⟨hmv, h.ne⟩).trans h.m1
    c0 := (cc 0 (by omega)).trans h.c0
    c1 := (cc 1 (by omega)).trans h.c1
    c2 := cs
    c3 := (cc 3 (by omega)).trans h.c3
    c4 := (cc 4 (by omega)).trans h.c4
    zm := (k2.frz (p := ⟨m, 0, none⟩) h.lm ⟨hmv, h.ne⟩).trans h.zm
    zn := (k2.frz (p := ⟨m, 1, none⟩) h.lm ⟨hmv, h.ne⟩).trans h.zn
    zv := (World.frozen?_setCell ..).trans ((k.frz (p := ⟨c, 1, none⟩) h.lc hcv).trans h.zv)
    za := (World.frozen?_setCell ..).trans ((k.frz (p := ⟨c, 2, none⟩) h.lc hcv).trans h.za)
    lm := Nat.lt_of_lt_of_le h.lm k2.size
    lc := Nat.lt_of_lt_of_le h.lc k2.size
    gm := h.gm
    gc := h.gc
    ne := h.ne
    ext := Below.trans h.ext (k2.below h.ext.size (fun g hg => ⟨fun e => by have := hlt g e; omega, by have := h.gc; omega⟩)) }
theorem CumSt.roomD {w0 : World} {m c : Nat} {cap : Int} {vd vv va : Value} {ds vs us : List Int} {W W' : World} (h : CumSt w0 m c cap vd vv va ds vs us W) (hg : W.grownBy W' vd.ownBlock) : W'.cell? ⟨m, 0, none⟩ = some vd ∧ W'.frozen? ⟨m, 0, none⟩ = false :=
  ⟨((Keep.of_grown hg).cell (p := ⟨m, 0, none⟩) h.lm (fun e => (h.dv m e).1 rfl)).trans h.m0, ((Keep.of_grown hg).frz (p := ⟨m, 0, none⟩) h.lm (fun e => (h.dv m e).1 rfl)).trans h.zm⟩
theorem CumSt.roomV {w0 : World} {m c : Nat} {cap : Int} {vd vv va : Value} {ds vs us : List Int} {W W' : World} (h : CumSt w0 m c cap vd vv va ds vs us W) (hg : W.grownBy W' vv.ownBlock) : W'.cell? ⟨c, 1, none⟩ = some vv ∧ W'.frozen? ⟨c, 1, none⟩ = false :=
  ⟨((Keep.of_grown hg).cell (p := ⟨c, 1, none⟩) h.lc (fun e => (h.vo c e).2.1 rfl)).trans h.c1, ((Keep.of_grown hg).frz (p := ⟨c, 1, none⟩) h.lc (fun e => (h.vo c e).2.1 rfl)).trans h.zv⟩
theorem CumSt.roomA {w0 : World} {m c : Nat} {cap : Int} {vd vv va : Value} {ds vs us : List Int} {W W' : World} (h : CumSt w0 m c cap vd vv va ds vs us W) (hg : W.grownBy W' va.ownBlock) : W'.cell? ⟨c, 2, none⟩ = some va ∧ W'.frozen? ⟨c, 2, none⟩ = false :=
  ⟨((Keep.of_grown hg).cell (p := ⟨c, 2, none⟩) h.lc (fun e => (h.ao c e).2.1 rfl)).trans h.c2, ((Keep.of_grown hg).frz (p := ⟨c, 2, none⟩) h.lc (fun e => (h.ao c e).2.1 rfl)).trans h.za⟩
theorem Tryd.infoC : (Tryd.prog.info? 60).map (fun i => (i.zero, i.size, i.bytes)) = some (some (.agg #[.int .i64 0, .slice none 0 0, .slice none 0 0, .int .i64 0, .slice none 0 0]), 5, 88) := by kernel_rfl
/-- append of one constraint to the nil slice. -/
theorem wpList_appC1 (w : World) {ops : Array Oper} {rest : List Oper} {o : Oper} {a : Act} {Q : Exit → Act → World → Prop} (hgd : o.guard = none) (s x : Operand)
    (ho : o.op = .call { callee := .builtin .append, args := #[s, x], argTypes := #[36, 36] })
    (b c : Nat) (u0 u1 u2 u3 u4 : Value) (hs : a.eval s = .slice none 0 0) (hx : a.eval x = .slice (some ⟨b, 0, none⟩) 1 c)
    (h0 : w.cell? ⟨b, 0, none⟩ = some u0) (h1 : w.cell? ⟨b, 1, none⟩ = some u1) (h2 : w.cell? ⟨b, 2, none⟩ = some u2) (h3 : w.cell? ⟨b, 3, none⟩ = some u3) (h4 : w.cell? ⟨b, 4, none⟩ = some u4)
    (hone : ∀ u ∈ [u0, u1, u2, u3, u4], u.oneCell' = true)
    (h : ∀ g cap w', Ext w w' → 1 ≤ cap → w.heap.size ≤ g → g < w'.heap.size → w'.cell? ⟨g, 0, none⟩ = some u0 → w'.cell? ⟨g, 1, none⟩ = some u1 → w'.cell? ⟨g, 2, none⟩ = some u2 → w'.cell? ⟨g, 3, none⟩ = some u3 → w'.cell? ⟨g, 4, none⟩ = some u4 → wpList Tryd.prog ops Q rest (a.put o.dst (.slice (some ⟨g, 0, none⟩) 1 cap)) w') :
    wpList Tryd.prog ops Q (o :: rest) a w := by
  obtain ⟨i, hi', hz⟩ := Option.map_eq_some_iff.1 Tryd.infoC
  simp only [Prod.mk.injEq] at hz
  have hadd : ∀ j, (⟨b, 0, none⟩ : Addr).add j = ⟨b, j, none⟩ := fun j => by unfold Addr.add; split <;> simp_all
  obtain ⟨v', w', hrun, e2, e3, -⟩ := run_append_own (P := Tryd.prog) w w.heap.size 36 o.type 60 i _ 5 88 Tryd.underlying36 hi' hz.1 hz.2.1 hz.2.2 rfl (by omega) (.slice none 0 0) 0 [] (World.ownsRow_nil w _ _ _) ⟨b, 0, none⟩ 1 c [u0, u1, u2, u3, u4] rfl (fun j u hj => by
    rw [hadd]
    match j with
    | 0 => simp at hj; subst hj; exact h0
    | 1 => simp at hj; subst hj; exact h1
    | 2 => simp at hj; subst hj; exact h2
    | 3 => simp at hj; subst hj; exact h3
    | 4 => simp at hj; subst hj; exact h4
    | j + 5 => simp at hj) hone (by unfold maxLen; omega) (by omega) (Nat.le_refl _)
  refine wpList_plain hgd fun K hK => ?_
  unfold Oper.wp
  simp [execOp, ho, resolve, invoke, builtin, hs, hx, hrun, Result.andThen]
  rcases e2.2 with ⟨-, e4⟩ | ⟨g, cap, cur, e1, hg, hh, hnc, hm, hcs, htk⟩
  · omega
  · subst e1
    have hc : ∀ j u, j < 5 → [u0, u1, u2, u3, u4][j]? = some u → w'.cell? ⟨g, j, none⟩ = some u := fun j u hj hu => by
      have e : (cur.toList.take ((0 + 1) * 5))[j]? = ([] ++ [u0, u1, u2, u3, u4])[j]? := by rw [htk]
      rw [List.getElem?_take, if_pos (by omega), Array.getElem?_toList, List.nil_append, hu] at e
      simp [World.cell?, hh, e]
    exact hK _ _ (h g cap w' ⟨e3.os, e3.tape, e3.output, e3.size, fun k hk => e3.block k hk (by simp [Value.ownBlock])⟩ (by omega) hg (Array.getElem?_eq_some_iff.1 hh).1 (hc 0 _ (by omega) rfl) (hc 1 _ (by omega) rfl) (hc 2 _ (by omega) rfl) (hc 3 _ (by omega) rfl) (hc 4 _ (by omega) rfl))
/-- Orders that come to one: the walk goes on once. -/
theorem wp_merge {P : Program} {c : Code} {Q : Exit → Act → World → Prop} {a : Act} {w : World} (Po : Option Addr → Nat → World → Prop) (F : Option Addr → Nat → Act)
    (h : c.wp P (fun e a' W' => e = .normal ∧ ∃ A' c', Po A' c' W' ∧ a' = F A' c') a w) (hq : ∀ A' c' W', Po A' c' W' → Q .normal (F A' c') W') : c.wp P Q a w :=
  Code.wp_mono (fun e a' W' ⟨h1, A', c', h2, h3⟩ => by subst h1; subst h3; exact hq A' c' W' h2) h
end Go.Proofs.YtjpdebgejlfeaaaDoor
/- The walk of the law's own cumulative. -/
namespace Go.Proofs.YtjpdebgejlfeaaaDoor
open Go.RowKit

def upS (ts : List Tk) (k : Nat) : List Int := (List.range k).map (fun i => tkS ts i)
def upD (ts : List Tk) (k : Nat) : List Int := (List.range k).map (fun i => tkD ts i)
def upM (ts : List Tk) (k : Nat) : List Int := (List.range k).map (fun i => tkM ts i)
def upI (k : Nat) : List Int := (List.range k).map (fun (i : Nat) => (i : Int))
theorem upS_succ (ts : List Tk) (k : Nat) : upS ts k ++ [tkS ts k] = upS ts (k + 1) := by unfold upS; rw [List.range_succ, List.map_append]; rfl
theorem upD_succ (ts : List Tk) (k : Nat) : upD ts k ++ [tkD ts k] = upD ts (k + 1) := by unfold upD; rw [List.range_succ, List.map_append]; rfl
theorem upM_succ (ts : List Tk) (us : List Int) (k : Nat) : (us ++ upM ts k) ++ [tkM ts k] = us ++ upM ts (k + 1) := by unfold upM; rw [List.range_succ, List.map_append, List.append_assoc]; rfl
theorem upI_succ (k : Nat) : upI k ++ [(k : Int)] = upI (k + 1) := by unfold upI; rw [List.range_succ, List.map_append]; rfl
def upA (ts : List Tk) (k : Nat) : List Int := upD ts ts.length ++ upM ts k
theorem upA_succ (ts : List Tk) (k : Nat) : upA ts k ++ [tkM ts k] = upA ts (k + 1) := by unfold upA; exact upM_succ ts _ k
theorem upA_len (ts : List Tk) (k : Nat) : (upA ts k).length = ts.length + k := by simp [upA, upD, upM]
theorem upA_zero (ts : List Tk) : upA ts 0 = upD ts ts.length := by simp [upA, upM]
theorem upS_len (ts : List Tk) (k : Nat) : (upS ts k).length = k := by simp [upS]
theorem upD_len (ts : List Tk) (k : Nat) : (upD ts k).length = k := by simp [upD]
theorem upM_len (ts : List Tk) (k : Nat) : (upM ts k).length = k := by simp [upM]
theorem upI_len (k : Nat) : (upI k).length = k := by simp [upI]
theorem upS_at (ts : List Tk) {k i : Nat} (h : i < k) : at0 (upS ts k) i = tkS ts i := by unfold at0; rw [getD_lt _ _ (by rw [upS_len]; exact h)]; simp [upS]
theorem upI_at {k i : Nat} (h : i < k) : at0 (upI k) i = i := by unfold at0; rw [getD_lt _ _ (by rw [upI_len]; exact h)]; simp [upI]
theorem upA_at (ts : List Tk) {i : Nat} (h : i < ts.length + ts.length) : ∃ j, j < ts.length ∧ (at0 (upA ts ts.length) i = tkD ts j ∨ at0 (upA ts ts.length) i = tkM ts j) := by
  unfold at0
  rw [getD_lt _ _ (by rw [upA_len]; exact h)]
  unfold upA
  by_cases hi : i < ts.length
  · exact ⟨i, hi, .inl (by rw [List.getElem_append_left (by rw [upD_len]; exact hi)]; simp [upD])⟩
  · exact ⟨i - ts.length, by omega, .inr (by rw [List.getElem_append_right (by rw [upD_len]; omega)]; simp [upM, upD_len])⟩
/-- The law's constraint for tasks. -/
def cumC (ts : List Tk) (cap : Int) : Con := ⟨7, upI ts.length, upA ts ts.length, cap, []⟩
/-- A model with this one constraint came. -/
def CumRes (ts : List Tk) (cap : Int) (w : World) (e : Ending) (w' : World) : Prop :=
  ∃ vd vc, e = .returned (.agg #[vd, vc]) ∧ SInts w' vd (upS ts ts.length) ∧ SCons w' vc [cumC ts cap] ∧ Ext w w'
set_option maxRecDepth 100000 in
set_option maxHeartbeats 8000000 in
theorem cumulative_any (v : Value) (ts : List Tk) (cap : Int) (w : World) (hS : STasks w v ts) (hl : ts.length ≤ 1000) :
    Calls Tryd.prog 16 #[v, .int .i64 cap] w (CumRes ts cap w) := by
  have hS0 := hide (hS.ext ((Ext.refl w).alloc (.cells #[.slice none 0 0, .slice none 0 0] 38)))
  obtain ⟨A, c, rfl, -, -⟩ := hS.form
  clear hS
  go_enter Tryd.func16, Tryd.ntmps16
  go_wp2
  go_loopw [7] (fun i W => ∃ k : Nat, k ≤ ts.length ∧ i = .int .i64 k ∧ ∃ vd vv va, CumSt (w.alloc (.cells #[.slice none 0 0, .slice none 0 0] 38)) (w.heap.size + 1) (w.heap.size + 1 + 1) cap vd vv va (upS ts k) (upI k) (upD ts k) W) (fun i _ => ts.length - (intOf i).toNat)
  case atStart =>
    refine ⟨0, Nat.zero_le _, rfl, .slice none 0 0, .slice none 0 0, .slice none 0 0, AppI.nil_ _ _, AppI.nil_ _ _, AppI.nil_ _ _, fun g h => (by cases h), fun g h => (by cases h), fun g h => (by cases h), ?_, ?_, ?_, ?_, ?_, ?_, ?_, ?_, ?_, ?_, ?_, ?_, ?_, by simp, by simp, by omega, ?_⟩
    all_goals go_simp
    exact ((Ext.refl _).alloc _).alloc _
  case round =>
    obtain ⟨k, hk, rfl, vd, vv, va, hC⟩ := hrel
    by_cases hlt : k < ts.length
    · obtain ⟨b, off, rfl, hbl0, g1, g2, -⟩ := hS0.out.at_ hlt
      have hkI : (k : Int) < ts.length := by omega
      have f1 := (hC.ext.cells b (off + k * 3) hbl0).trans g1
      obtain ⟨Ad, cd, rfl, -⟩ := hC.d.form
      have m0 := hC.m0
      have HG := hide (hC.grow (((Ext.refl _).drew).alloc (.cells #[.int .i64 (tkS ts k)] 3)))
      have hlm := hC.lm
      have hbl := Nat.lt_of_lt_of_le hbl0 hC.ext.size
      clear hC g1
      go_wp2_with fail
      apply wp_merge (fun A' c' W' => CumSt (w.alloc (.cells #[.slice none 0 0, .slice none 0 0] 38)) (w.heap.size + 1) (w.heap.size + 1 + 1) cap (.slice A' (upS ts (k + 1)).length c') vv va (upS ts (k + 1)) (upI k) (upD ts k) W')
      case h =>
        refine wp_region_any (by kernel_rfl) ?_
        change wpAny _ _ _ _ _ _ _ (World.drew _)
        refine wpAny_take (i := 0) (v := ?_) rfl (by kernel_rfl) (by kernel_rfl) (by kernel_rfl) (by rintro _ _ _ ⟨h, _⟩; cases h) (Or.inl ⟨by rfl, ?hy0⟩) ?_
        case hy0 => intro w; go_simp; with_reducible rfl
        refine wpAny_take (i := 2) (v := ?_) rfl (by kernel_rfl) (by kernel_rfl) (by kernel_rfl) (by rintro _ _ _ ⟨h, _⟩; cases h) (Or.inl ⟨by rfl, ?hy2⟩) ?_
        case hy2 => intro w; go_simp; with_reducible rfl
        refine wpAny_take (i := 3) (v := ?_) rfl (by kernel_rfl) (by kernel_rfl) (by kernel_rfl) (by rintro _ _ _ ⟨h, _⟩; cases h) (Or.inl ⟨by rfl, ?hy3⟩) ?_
        case hy3 => intro w; go_simp; with_reducible rfl
        refine wpAny_take (i := 4) (v := ?_) rfl (by kernel_rfl) (by kernel_rfl) (by kernel_rfl) (by rintro _ _ _ ⟨h, _⟩; cases h) (Or.inl ⟨by rfl, ?hy4⟩) ?_
        case hy4 => intro w; go_simp; with_reducible rfl
        refine wpAny_take (i := 5) (v := ?_) rfl (by kernel_rfl) (by kernel_rfl) (by kernel_rfl) (by rintro _ _ _ ⟨h, _⟩; cases h) (Or.inl ⟨by rfl, ?hy5⟩) ?_
        case hy5 => intro w; go_simp; with_reducible rfl
        refine wpAny_ready (rs := [1, 6]) (by kernel_rfl) (by simp) ?_
        refine AllReady.cons rfl (fun K hK => ?_) (AllReady.cons rfl (fun K hK => ?_) AllReady.nil)
        · go_simp
          refine hK _ _ ?_; clear hK K
          refine wpAny_ready (rs := [6]) (by kernel_rfl) (by simp) ?_
          refine AllReady.cons rfl (fun K hK => ?_) AllReady.nil
          go_simp
          refine hK _ _ ?_; clear hK K
          refine wpAny_ready (rs := [7]) (by kernel_rfl) (by simp) ?_
          refine AllReady.cons rfl (fun K hK => ?_) AllReady.nil
          go_simp
          refine hK _ _ ?_; clear hK K
          refine wpAny_ready (rs := [8]) (by kernel_rfl) (by simp) ?_
          refine AllReady.cons rfl (fun K hK => ?_) AllReady.nil
          refine step_appIO _ rfl _ _ rfl (w.alloc (.cells #[.slice none 0 0, .slice none 0 0] 38)).heap.size (.slice Ad (upS ts k).length cd) (upS ts k) (tkS ts k) wr.heap.size 1 rfl rfl HG.out.d (by go_simp) (by rw [upS_len]; omega) (by have := HG.out.ext.size; exact this) ?_
          intro vx' W2 hA hg ho
          obtain ⟨r1, r2⟩ := HG.out.roomD hg
          have hN := HG.out.addD hA hg ho
          rw [upS_succ] at hN hA
          obtain ⟨A9, c9, rfl, -⟩ := hA.form
          have HN := hide hN
          clear hN hA hg ho
          refine hK _ _ ?_; clear hK K
          refine wpAny_ready (rs := [9]) (by kernel_rfl) (by simp) ?_
          refine AllReady.cons rfl (fun K hK => ?_) AllReady.nil
          go_simp
          refine hK _ _ ?_; clear hK K
          refine wpAny_ready (rs := [10]) (by kernel_rfl) (by simp) ?_
          refine AllReady.cons rfl (fun K hK => ?_) AllReady.nil
          go_simp
          refine hK _ _ ?_; clear hK K
          refine wpAny_done (by kernel_rfl) ?_ _
          exact ⟨rfl, A9, c9, HN.out, rfl⟩
        · go_simp
          refine hK _ _ ?_; clear hK K
          refine wpAny_ready (rs := [1, 7]) (by kernel_rfl) (by simp) ?_
          refine AllReady.cons rfl (fun K hK => ?_) (AllReady.cons rfl (fun K hK => ?_) AllReady.nil)
          · go_simp
            refine hK _ _ ?_; clear hK K
            refine wpAny_ready (rs := [7]) (by kernel_rfl) (by simp) ?_
            refine AllReady.cons rfl (fun K hK => ?_) AllReady.nil
            go_simp
            refine hK _ _ ?_; clear hK K
            refine wpAny_ready (rs := [8]) (by kernel_rfl) (by simp) ?_
            refine AllReady.cons rfl (fun K hK => ?_) AllReady.nil
            refine step_appIO _ rfl _ _ rfl (w.alloc (.cells #[.slice none 0 0, .slice none 0 0] 38)).heap.size (.slice Ad (upS ts k).length cd) (upS ts k) (tkS ts k) wr.heap.size 1 rfl rfl HG.out.d (by go_simp) (by rw [upS_len]; omega) (by have := HG.out.ext.size; exact this) ?_
            intro vx' W2 hA hg ho
            obtain ⟨r1, r2⟩ := HG.out.roomD hg
            have hN := HG.out.addD hA hg ho
            rw [upS_succ] at hN hA
            obtain ⟨A9, c9, rfl, -⟩ := hA.form
            have HN := hide hN
            clear hN hA hg ho
            refine hK _ _ ?_; clear hK K
            refine wpAny_ready (rs := [9]) (by kernel_rfl) (by simp) ?_
            refine AllReady.cons rfl (fun K hK => ?_) AllReady.nil
            go_simp
            refine hK _ _ ?_; clear hK K
            refine wpAny_ready (rs := [10]) (by kernel_rfl) (by simp) ?_
            refine AllReady.cons rfl (fun K hK => ?_) AllReady.nil
            go_simp
            refine hK _ _ ?_; clear hK K
            refine wpAny_done (by kernel_rfl) ?_ _
            exact ⟨rfl, A9, c9, HN.out, rfl⟩
          · go_simp
            refine hK _ _ ?_; clear hK K
            refine wpAny_ready (rs := [1]) (by kernel_rfl) (by simp) ?_
            refine AllReady.cons rfl (fun K hK => ?_) AllReady.nil
            go_simp
            refine hK _ _ ?_; clear hK K
            refine wpAny_ready (rs := [8]) (by kernel_rfl) (by simp) ?_
            refine AllReady.cons rfl (fun K hK => ?_) AllReady.nil
            refine step_appIO _ rfl _ _ rfl (w.alloc (.cells #[.slice none 0 0, .slice none 0 0] 38)).heap.size (.slice Ad (upS ts k).length cd) (upS ts k) (tkS ts k) wr.heap.size 1 rfl rfl HG.out.d (by go_simp) (by rw [upS_len]; omega) (by have := HG.out.ext.size; exact this) ?_
            intro vx' W2 hA hg ho
            obtain ⟨r1, r2⟩ := HG.out.roomD hg
            have hN := HG.out.addD hA hg ho
            rw [upS_succ] at hN hA
            obtain ⟨A9, c9, rfl, -⟩ := hA.form
            have HN := hide hN
            clear hN hA hg ho
            refine hK _ _ ?_; clear hK K
            refine wpAny_ready (rs := [9]) (by kernel_rfl) (by simp) ?_
            refine AllReady.cons rfl (fun K hK => ?_) AllReady.nil
            go_simp
            refine hK _ _ ?_; clear hK K
            refine wpAny_ready (rs := [10]) (by kernel_rfl) (by simp) ?_
            refine AllReady.cons rfl (fun K hK => ?_) AllReady.nil
            go_simp
            refine hK _ _ ?_; clear hK K
            refine wpAny_done (by kernel_rfl) ?_ _
            exact ⟨rfl, A9, c9, HN.out, rfl⟩
      intro A3 c3 W3 hC
      clear m0 hlm hbl HG f1
      obtain ⟨Av, cv, rfl, -⟩ := hC.v.form
      have c1 := hC.c1
      have HG2 := hide (hC.grow ((Ext.refl _).alloc (.cells #[.int .i64 (k : Int)] 3)))
      have hlm := hC.lm
      have hlc := hC.lc
      clear hC
      go_wp2_with (at_builtin; go_must (refine wpList_appIO _ rfl _ _ rfl (w.alloc (.cells #[.slice none 0 0, .slice none 0 0] 38)).heap.size (.slice Av (upI k).length cv) (upI k) k W3.heap.size 1 rfl rfl HG2.out.v (by go_simp) (by rw [upI_len]; omega) (by have := HG2.out.ext.size; exact this) ?_); intro vx' W4 hA hg ho; obtain ⟨r1, r2⟩ := HG2.out.roomV hg; have hN := HG2.out.addV hA hg ho; rw [upI_succ] at hN hA; obtain ⟨A9, c9, rfl, -⟩ := hA.form; have HN := hide hN; clear hN hA hg ho)
      have HC5 := hide HN.out
      obtain ⟨Aa, ca, rfl, -⟩ := HN.out.a.form
      have c2 := HC5.out.c2
      have f2 := (HC5.out.ext.cells b (off + k * 3 + 1) hbl0).trans g2
      have HG5 := hide (HC5.out.grow (((Ext.refl _).drew).alloc (.cells #[.int .i64 (tkD ts k)] 3)))
      have hlc5 := HC5.out.lc
      have hbl5 := Nat.lt_of_lt_of_le hbl0 HC5.out.ext.size
      clear g2 HN c1 HG2 hlm hlc
      generalize hW5 : W4.setCell ⟨w.heap.size + 1 + 1, 1, none⟩ (.slice A9 (upI (k + 1)).length c9) = W5 at *
      apply wp_merge (fun A' c' W' => CumSt (w.alloc (.cells #[.slice none 0 0, .slice none 0 0] 38)) (w.heap.size + 1) (w.heap.size + 1 + 1) cap (.slice A3 (upS ts (k + 1)).length c3) (.slice A9 (upI (k + 1)).length c9) (.slice A' (upD ts (k + 1)).length c') (upS ts (k + 1)) (upI (k + 1)) (upD ts (k + 1)) W')
      case h =>
        refine wp_region_any (by kernel_rfl) ?_
        change wpAny _ _ _ _ _ _ _ (World.drew _)
        refine wpAny_take (i := 0) (v := ?_) rfl (by kernel_rfl) (by kernel_rfl) (by kernel_rfl) (by rintro _ _ _ ⟨h, _⟩; cases h) (Or.inl ⟨by rfl, ?hy0⟩) ?_
        case hy0 => intro w; go_simp; with_reducible rfl
        refine wpAny_take (i := 2) (v := ?_) rfl (by kernel_rfl) (by kernel_rfl) (by kernel_rfl) (by rintro _ _ _ ⟨h, _⟩; cases h) (Or.inl ⟨by rfl, ?hy2⟩) ?_
        case hy2 => intro w; go_simp; with_reducible rfl
        refine wpAny_take (i := 3) (v := ?_) rfl (by kernel_rfl) (by kernel_rfl) (by kernel_rfl) (by rintro _ _ _ ⟨h, _⟩; cases h) (Or.inl ⟨by rfl, ?hy3⟩) ?_
        case hy3 => intro w; go_simp; with_reducible rfl
        refine wpAny_take (i := 4) (v := ?_) rfl (by kernel_rfl) (by kernel_rfl) (by kernel_rfl) (by rintro _ _ _ ⟨h, _⟩; cases h) (Or.inl ⟨by rfl, ?hy4⟩) ?_
        case hy4 => intro w; go_simp; with_reducible rfl
        refine wpAny_take (i := 5) (v := ?_) rfl (by kernel_rfl) (by kernel_rfl) (by kernel_rfl) (by rintro _ _ _ ⟨h, _⟩; cases h) (Or.inl ⟨by rfl, ?hy5⟩) ?_
        case hy5 => intro w; go_simp; with_reducible rfl
        refine wpAny_ready (rs := [1, 6]) (by kernel_rfl) (by simp) ?_
        refine AllReady.cons rfl (fun K hK => ?_) (AllReady.cons rfl (fun K hK => ?_) AllReady.nil)
        · go_simp
          refine hK _ _ ?_; clear hK K
          refine wpAny_ready (rs := [6]) (by kernel_rfl) (by simp) ?_
          refine AllReady.cons rfl (fun K hK => ?_) AllReady.nil
          go_simp
          refine hK _ _ ?_; clear hK K
          refine wpAny_ready (rs := [7]) (by kernel_rfl) (by simp) ?_
          refine AllReady.cons rfl (fun K hK => ?_) AllReady.nil
          go_simp
          refine hK _ _ ?_; clear hK K
          refine wpAny_ready (rs := [8]) (by kernel_rfl) (by simp) ?_
          refine AllReady.cons rfl (fun K hK => ?_) AllReady.nil
          refine step_appIO _ rfl _ _ rfl (w.alloc (.cells #[.slice none 0 0, .slice none 0 0] 38)).heap.size (.slice Aa (upD ts k).length ca) (upD ts k) (tkD ts k) W5.heap.size 1 rfl rfl HG5.out.a (by go_simp) (by rw [upD_len]; omega) (by have := HG5.out.ext.size; exact this) ?_
          intro vx' W2 hA hg ho
          obtain ⟨r1, r2⟩ := HG5.out.roomA hg
          have hN := HG5.out.addA hA hg ho
          rw [upD_succ] at hN hA
          obtain ⟨A9, c9, rfl, -⟩ := hA.form
          have HN := hide hN
          clear hN hA hg ho
          refine hK _ _ ?_; clear hK K
          refine wpAny_ready (rs := [9]) (by kernel_rfl) (by simp) ?_
          refine AllReady.cons rfl (fun K hK => ?_) AllReady.nil
          go_simp
          refine hK _ _ ?_; clear hK K
          refine wpAny_ready (rs := [10]) (by kernel_rfl) (by simp) ?_
          refine AllReady.cons rfl (fun K hK => ?_) AllReady.nil
          go_simp
          refine hK _ _ ?_; clear hK K
          refine wpAny_done (by kernel_rfl) ?_ _
          exact ⟨rfl, A9, c9, HN.out, rfl⟩
        · go_simp
          refine hK _ _ ?_; clear hK K
          refine wpAny_ready (rs := [1, 7]) (by kernel_rfl) (by simp) ?_
          refine AllReady.cons rfl (fun K hK => ?_) (AllReady.cons rfl (fun K hK => ?_) AllReady.nil)
          · go_simp
            refine hK _ _ ?_; clear hK K
            refine wpAny_ready (rs := [7]) (by kernel_rfl) (by simp) ?_
            refine AllReady.cons rfl (fun K hK => ?_) AllReady.nil
            go_simp
            refine hK _ _ ?_; clear hK K
            refine wpAny_ready (rs := [8]) (by kernel_rfl) (by simp) ?_
            refine AllReady.cons rfl (fun K hK => ?_) AllReady.nil
            refine step_appIO _ rfl _ _ rfl (w.alloc (.cells #[.slice none 0 0, .slice none 0 0] 38)).heap.size (.slice Aa (upD ts k).length ca) (upD ts k) (tkD ts k) W5.heap.size 1 rfl rfl HG5.out.a (by go_simp) (by rw [upD_len]; omega) (by have := HG5.out.ext.size; exact this) ?_
            intro vx' W2 hA hg ho
            obtain ⟨r1, r2⟩ := HG5.out.roomA hg
            have hN := HG5.out.addA hA hg ho
            rw [upD_succ] at hN hA
            obtain ⟨A9, c9, rfl, -⟩ := hA.form
            have HN := hide hN
            clear hN hA hg ho
            refine hK _ _ ?_; clear hK K
            refine wpAny_ready (rs := [9]) (by kernel_rfl) (by simp) ?_
            refine AllReady.cons rfl (fun K hK => ?_) AllReady.nil
            go_simp
            refine hK _ _ ?_; clear hK K
            refine wpAny_ready (rs := [10]) (by kernel_rfl) (by simp) ?_
            refine AllReady.cons rfl (fun K hK => ?_) AllReady.nil
            go_simp
            refine hK _ _ ?_; clear hK K
            refine wpAny_done (by kernel_rfl) ?_ _
            exact ⟨rfl, A9, c9, HN.out, rfl⟩
          · go_simp
            refine hK _ _ ?_; clear hK K
            refine wpAny_ready (rs := [1]) (by kernel_rfl) (by simp) ?_
            refine AllReady.cons rfl (fun K hK => ?_) AllReady.nil
            go_simp
            refine hK _ _ ?_; clear hK K
            refine wpAny_ready (rs := [8]) (by kernel_rfl) (by simp) ?_
            refine AllReady.cons rfl (fun K hK => ?_) AllReady.nil
            refine step_appIO _ rfl _ _ rfl (w.alloc (.cells #[.slice none 0 0, .slice none 0 0] 38)).heap.size (.slice Aa (upD ts k).length ca) (upD ts k) (tkD ts k) W5.heap.size 1 rfl rfl HG5.out.a (by go_simp) (by rw [upD_len]; omega) (by have := HG5.out.ext.size; exact this) ?_
            intro vx' W2 hA hg ho
            obtain ⟨r1, r2⟩ := HG5.out.roomA hg
            have hN := HG5.out.addA hA hg ho
            rw [upD_succ] at hN hA
            obtain ⟨A9, c9, rfl, -⟩ := hA.form
            have HN := hide hN
            clear hN hA hg ho
            refine hK _ _ ?_; clear hK K
            refine wpAny_ready (rs := [9]) (by kernel_rfl) (by simp) ?_
            refine AllReady.cons rfl (fun K hK => ?_) AllReady.nil
            go_simp
            refine hK _ _ ?_; clear hK K
            refine wpAny_ready (rs := [10]) (by kernel_rfl) (by simp) ?_
            refine AllReady.cons rfl (fun K hK => ?_) AllReady.nil
            go_simp
            refine hK _ _ ?_; clear hK K
            refine wpAny_done (by kernel_rfl) ?_ _
            exact ⟨rfl, A9, c9, HN.out, rfl⟩
      intro A6 c6 W6 hC
      clear c2 hlc5 hbl5 HG5 f2
      have HC6 := hide hC
      clear hC
      go_wp2
      go_roundw
      case rel => exact ⟨k + 1, by omega, by go_num, _, _, _, HC6.out⟩
      case measure => simp [intOf]; omega
    · obtain rfl : k = ts.length := by omega
      have HC0 := hide hC
      clear hC hlt
      have HL0 := hide hk
      clear hk
      go_wp2
      go_loopw [8] (fun i W => ∃ k : Nat, k ≤ ts.length ∧ i = .int .i64 k ∧ ∃ va, CumSt (w.alloc (.cells #[.slice none 0 0, .slice none 0 0] 38)) (w.heap.size + 1) (w.heap.size + 1 + 1) cap vd vv va (upS ts ts.length) (upI ts.length) (upA ts k) W) (fun i _ => ts.length - (intOf i).toNat)
      case atStart => exact ⟨0, Nat.zero_le _, rfl, va, by rw [upA_zero]; exact HC0.out⟩
      case round =>
        obtain ⟨k, hk, rfl, vb, hC⟩ := hrel
        by_cases hlt : k < ts.length
        · obtain ⟨b, off, rfl, hbl0, -, -, g3⟩ := hS0.out.at_ hlt
          have hkI : (k : Int) < ts.length := by omega
          have f3 := (hC.ext.cells b (off + k * 3 + 2) hbl0).trans g3
          obtain ⟨Aa, ca, rfl, -⟩ := hC.a.form
          have c2 := hC.c2
          have HG := hide (hC.grow (((Ext.refl _).drew).alloc (.cells #[.int .i64 (tkM ts k)] 3)))
          have hlc := hC.lc
          have hbl := Nat.lt_of_lt_of_le hbl0 hC.ext.size
          clear hC g3
          go_wp2_with fail
          apply wp_merge (fun A' c' W' => CumSt (w.alloc (.cells #[.slice none 0 0, .slice none 0 0] 38)) (w.heap.size + 1) (w.heap.size + 1 + 1) cap vd vv (.slice A' (upA ts (k + 1)).length c') (upS ts ts.length) (upI ts.length) (upA ts (k + 1)) W')
          case h =>
            refine wp_region_any (by kernel_rfl) ?_
            change wpAny _ _ _ _ _ _ _ (World.drew _)
            refine wpAny_take (i := 0) (v := ?_) rfl (by kernel_rfl) (by kernel_rfl) (by kernel_rfl) (by rintro _ _ _ ⟨h, _⟩; cases h) (Or.inl ⟨by rfl, ?hy0⟩) ?_
            case hy0 => intro w; go_simp; with_reducible rfl
            refine wpAny_take (i := 2) (v := ?_) rfl (by kernel_rfl) (by kernel_rfl) (by kernel_rfl) (by rintro _ _ _ ⟨h, _⟩; cases h) (Or.inl ⟨by rfl, ?hy2⟩) ?_
            case hy2 => intro w; go_simp; with_reducible rfl
            refine wpAny_take (i := 3) (v := ?_) rfl (by kernel_rfl) (by kernel_rfl) (by kernel_rfl) (by rintro _ _ _ ⟨h, _⟩; cases h) (Or.inl ⟨by rfl, ?hy3⟩) ?_
            case hy3 => intro w; go_simp; with_reducible rfl
            refine wpAny_take (i := 4) (v := ?_) rfl (by kernel_rfl) (by kernel_rfl) (by kernel_rfl) (by rintro _ _ _ ⟨h, _⟩; cases h) (Or.inl ⟨by rfl, ?hy4⟩) ?_
            case hy4 => intro w; go_simp; with_reducible rfl
            refine wpAny_take (i := 5) (v := ?_) rfl (by kernel_rfl) (by kernel_rfl) (by kernel_rfl) (by rintro _ _ _ ⟨h, _⟩; cases h) (Or.inl ⟨by rfl, ?hy5⟩) ?_
            case hy5 => intro w; go_simp; with_reducible rfl
            refine wpAny_ready (rs := [1, 6]) (by kernel_rfl) (by simp) ?_
            refine AllReady.cons rfl (fun K hK => ?_) (AllReady.cons rfl (fun K hK => ?_) AllReady.nil)
            · go_simp
              refine hK _ _ ?_; clear hK K
              refine wpAny_ready (rs := [6]) (by kernel_rfl) (by simp) ?_
              refine AllReady.cons rfl (fun K hK => ?_) AllReady.nil
              go_simp
              refine hK _ _ ?_; clear hK K
              refine wpAny_ready (rs := [7]) (by kernel_rfl) (by simp) ?_
              refine AllReady.cons rfl (fun K hK => ?_) AllReady.nil
              go_simp
              refine hK _ _ ?_; clear hK K
              refine wpAny_ready (rs := [8]) (by kernel_rfl) (by simp) ?_
              refine AllReady.cons rfl (fun K hK => ?_) AllReady.nil
              refine step_appIO _ rfl _ _ rfl (w.alloc (.cells #[.slice none 0 0, .slice none 0 0] 38)).heap.size (.slice Aa (upA ts k).length ca) (upA ts k) (tkM ts k) wr.heap.size 1 rfl rfl HG.out.a (by go_simp) (by rw [upA_len]; omega) (by have := HG.out.ext.size; exact this) ?_
              intro vx' W2 hA hg ho
              obtain ⟨r1, r2⟩ := HG.out.roomA hg
              have hN := HG.out.addA hA hg ho
              rw [upA_succ] at hN hA
              obtain ⟨A9, c9, rfl, -⟩ := hA.form
              have HN := hide hN
              clear hN hA hg ho
              refine hK _ _ ?_; clear hK K
              refine wpAny_ready (rs := [9]) (by kernel_rfl) (by simp) ?_
              refine AllReady.cons rfl (fun K hK => ?_) AllReady.nil
              go_simp
              refine hK _ _ ?_; clear hK K
              refine wpAny_ready (rs := [10]) (by kernel_rfl) (by simp) ?_
              refine AllReady.cons rfl (fun K hK => ?_) AllReady.nil
              go_simp
              refine hK _ _ ?_; clear hK K
              refine wpAny_done (by kernel_rfl) ?_ _
              exact ⟨rfl, A9, c9, HN.out, rfl⟩
            · go_simp
              refine hK _ _ ?_; clear hK K
              refine wpAny_ready (rs := [1, 7]) (by kernel_rfl) (by simp) ?_
              refine AllReady.cons rfl (fun K hK => ?_) (AllReady.cons rfl (fun K hK => ?_) AllReady.nil)
              · go_simp
                refine hK _ _ ?_; clear hK K
                refine wpAny_ready (rs := [7]) (by kernel_rfl) (by simp) ?_
                refine AllReady.cons rfl (fun K hK => ?_) AllReady.nil
                go_simp
                refine hK _ _ ?_; clear hK K
                refine wpAny_ready (rs := [8]) (by kernel_rfl) (by simp) ?_
                refine AllReady.cons rfl (fun K hK => ?_) AllReady.nil
                refine step_appIO _ rfl _ _ rfl (w.alloc (.cells #[.slice none 0 0, .slice none 0 0] 38)).heap.size (.slice Aa (upA ts k).length ca) (upA ts k) (tkM ts k) wr.heap.size 1 rfl rfl HG.out.a (by go_simp) (by rw [upA_len]; omega) (by have := HG.out.ext.size; exact this) ?_
                intro vx' W2 hA hg ho
                obtain ⟨r1, r2⟩ := HG.out.roomA hg
                have hN := HG.out.addA hA hg ho
                rw [upA_succ] at hN hA
                obtain ⟨A9, c9, rfl, -⟩ := hA.form
                have HN := hide hN
                clear hN hA hg ho
                refine hK _ _ ?_; clear hK K
                refine wpAny_ready (rs := [9]) (by kernel_rfl) (by simp) ?_
                refine AllReady.cons rfl (fun K hK => ?_) AllReady.nil
                go_simp
                refine hK _ _ ?_; clear hK K
                refine wpAny_ready (rs := [10]) (by kernel_rfl) (by simp) ?_
                refine AllReady.cons rfl (fun K hK => ?_) AllReady.nil
                go_simp
                refine hK _ _ ?_; clear hK K
                refine wpAny_done (by kernel_rfl) ?_ _
                exact ⟨rfl, A9, c9, HN.out, rfl⟩
              · go_simp
                refine hK _ _ ?_; clear hK K
                refine wpAny_ready (rs := [1]) (by kernel_rfl) (by simp) ?_
                refine AllReady.cons rfl (fun K hK => ?_) AllReady.nil
                go_simp
                refine hK _ _ ?_; clear hK K
                refine wpAny_ready (rs := [8]) (by kernel_rfl) (by simp) ?_
                refine AllReady.cons rfl (fun K hK => ?_) AllReady.nil
                refine step_appIO _ rfl _ _ rfl (w.alloc (.cells #[.slice none 0 0, .slice none 0 0] 38)).heap.size (.slice Aa (upA ts k).length ca) (upA ts k) (tkM ts k) wr.heap.size 1 rfl rfl HG.out.a (by go_simp) (by rw [upA_len]; omega) (by have := HG.out.ext.size; exact this) ?_
                intro vx' W2 hA hg ho
                obtain ⟨r1, r2⟩ := HG.out.roomA hg
                have hN := HG.out.addA hA hg ho
                rw [upA_succ] at hN hA
                obtain ⟨A9, c9, rfl, -⟩ := hA.form
                have HN := hide hN
                clear hN hA hg ho
                refine hK _ _ ?_; clear hK K
                refine wpAny_ready (rs := [9]) (by kernel_rfl) (by simp) ?_
                refine AllReady.cons rfl (fun K hK => ?_) AllReady.nil
                go_simp
                refine hK _ _ ?_; clear hK K
                refine wpAny_ready (rs := [10]) (by kernel_rfl) (by simp) ?_
                refine AllReady.cons rfl (fun K hK => ?_) AllReady.nil
                go_simp
                refine hK _ _ ?_; clear hK K
                refine wpAny_done (by kernel_rfl) ?_ _
                exact ⟨rfl, A9, c9, HN.out, rfl⟩
          intro A3 c3 W3 hC
          have HC6 := hide hC
          clear hC
          go_wp2
          go_roundw
          case rel => exact ⟨k + 1, by omega, by go_num, _, HC6.out⟩
          case measure => simp [intOf]; omega
        · obtain rfl : k = ts.length := by omega
          have HC9 := hide hC
          have m0 := hC.m0
          have m1 := hC.m1
          have zn := hC.zn
          have c0 := hC.c0
          have c1 := hC.c1
          have c2 := hC.c2
          have c3 := hC.c3
          have c4 := hC.c4
          have hlm := hC.lm
          have hlc := hC.lc
          obtain ⟨Ad, cd, rfl, -⟩ := hC.d.form
          obtain ⟨Av, cv, rfl, -⟩ := hC.v.form
          obtain ⟨Aa, ca, rfl, -⟩ := hC.a.form
          have HCA := hide (hC.grow ((Ext.refl _).alloc (.cells #[.int .i64 7, .slice Av (upI ts.length).length cv, .slice Aa (upA ts ts.length).length ca, .int .i64 cap, .slice none 0 0] 60)))
          clear hC hlt hk HC0
          go_wp2_with (at_builtin; go_must (refine wpList_appC1 _ rfl _ _ rfl wr.heap.size 1 (.int .i64 7) (.slice Av (upI ts.length).length cv) (.slice Aa (upA ts ts.length).length ca) (.int .i64 cap) (.slice none 0 0) rfl rfl (by go_simp) (by go_simp) (by go_simp) (by go_simp) (by go_simp) (by simp [Value.oneCell']) ?_); intro g cap' W8 hx hcap hge hg d0 d1 d2 d3 d4; have hC8 := HCA.out.grow hx; have m0' := hC8.m0; have m1' := hC8.m1; have zm' := hC8.zm; have zn' := hC8.zn; have r0 := (hC8.ext.cells w.heap.size 0 (by simp)).trans (show (w.alloc (.cells #[.slice none 0 0, .slice none 0 0] 38)).cell? ⟨w.heap.size, 0, none⟩ = some (.slice none 0 0) by go_simp); have r1 := (hC8.ext.cells w.heap.size 1 (by simp)).trans (show (w.alloc (.cells #[.slice none 0 0, .slice none 0 0] 38)).cell? ⟨w.heap.size, 1, none⟩ = some (.slice none 0 0) by go_simp); have s0 := (hC8.ext.frz w.heap.size 0 (by simp)).trans (show (w.alloc (.cells #[.slice none 0 0, .slice none 0 0] 38)).frozen? ⟨w.heap.size, 0, none⟩ = false by go_simp); have s1 := (hC8.ext.frz w.heap.size 1 (by simp)).trans (show (w.alloc (.cells #[.slice none 0 0, .slice none 0 0] 38)).frozen? ⟨w.heap.size, 1, none⟩ = false by go_simp); have HC8 := hide hC8; have HD := hide (show W8.cell? ⟨g, 0, none⟩ = some (.int .i64 7) ∧ W8.cell? ⟨g, 1, none⟩ = some (.slice Av (upI ts.length).length cv) ∧ W8.cell? ⟨g, 2, none⟩ = some (.slice Aa (upA ts ts.length).length ca) ∧ W8.cell? ⟨g, 3, none⟩ = some (.int .i64 cap) ∧ W8.cell? ⟨g, 4, none⟩ = some (.slice none 0 0) from ⟨d0, d1, d2, d3, d4⟩); clear d0 d1 d2 d3 d4 hx hC8 m0 m1 zn c0 c1 c2 c3 c4 hlm hlc)
          refine bodyPost_ret (v := .agg #[.slice Ad (upS ts ts.length).length cd, .slice (some ⟨g, 0, none⟩) 1 cap']) ?res rfl ?_
          case res =>
            unfold results
            simp only [Tryd.f16]
            go_simp
          have hwr := HC9.out.ext.size
          simp only [World.size_alloc] at hge hwr
          have hK : Keep (fun k => k ≠ w.heap.size + 1 ∧ k ≠ w.heap.size) W8 (((W8.setCell ⟨w.heap.size + 1, 1, none⟩ (.slice (some ⟨g, 0, none⟩) 1 cap')).setCell ⟨w.heap.size, 0, none⟩ (.slice Ad (upS ts ts.length).length cd)).setCell ⟨w.heap.size, 1, none⟩ (.slice (some ⟨g, 0, none⟩) 1 cap')) :=
            (((Keep.refl _ W8).set (fun _ t => t.1 rfl) _).set (fun _ t => t.2 rfl) _).set (fun _ t => t.2 rfl) _
          have hb : ∀ {v xs}, AppI (w.alloc (.cells #[.slice none 0 0, .slice none 0 0] 38)).heap.size W8 v xs → ∀ k, v.ownBlock = some k → k ≠ w.heap.size := fun h k e => by
            have := (World.ownsRow.lt h k e).1
            simp only [World.size_alloc] at this
            omega
          obtain ⟨d0, d1, d2, d3, d4⟩ := HD.out
          have hgs : g ≠ w.heap.size + 1 ∧ g ≠ w.heap.size := by omega
          have hI := hS0.out.i64
          refine ⟨_, _, rfl, (HC8.out.d.keep hK (fun k e => ⟨(HC8.out.dv k e).1, hb HC8.out.d k e⟩)).sints (by rw [upS_len]; omega) (fun i hi => ?_), ⟨some ⟨g, 0, none⟩, cap', rfl, hcap, by simp, fun _ => ⟨g, 0, rfl, Nat.lt_of_lt_of_le hg hK.size, fun i hi => ?_⟩⟩, ?_⟩
          · rw [upS_len] at hi
            rw [upS_at ts hi]
            exact (hI i hi).1
          · obtain rfl : i = 0 := by simp at hi; omega
            refine ⟨.slice Av (upI ts.length).length cv, .slice Aa (upA ts ts.length).length ca, .slice none 0 0, (hK.cell (p := ⟨g, 0, none⟩) hg hgs).trans d0, (hK.cell (p := ⟨g, 1, none⟩) hg hgs).trans d1, (hK.cell (p := ⟨g, 2, none⟩) hg hgs).trans d2, (hK.cell (p := ⟨g, 3, none⟩) hg hgs).trans d3, (hK.cell (p := ⟨g, 4, none⟩) hg hgs).trans d4,
              (HC8.out.v.keep hK (fun k e => ⟨(HC8.out.vo k e).1, hb HC8.out.v k e⟩)).sints (by rw [upI_len]; omega) (fun i hi => ?_), (HC8.out.a.keep hK (fun k e => ⟨(HC8.out.ao k e).1, hb HC8.out.a k e⟩)).sints (by rw [upA_len]; omega) (fun i hi => ?_), ⟨none, 0, rfl, by simp [con0, cumC], by simp [con0, cumC], fun hp => absurd hp (by simp [con0, cumC])⟩⟩
            · rw [upI_len] at hi
              rw [upI_at hi]
              constructor <;> omega
            · rw [upA_len] at hi
              rcases upA_at ts hi with ⟨j, hj, e | e⟩
              · rw [e]; exact (hI j hj).2.1
              · rw [e]; exact (hI j hj).2.2
          · exact Below.trans (Below.trans ((Ext.refl w).alloc _) (HC8.out.ext.keep (fun _ => True) |>.below (by simp) (fun _ _ => trivial))) (hK.below (by have := HC8.out.ext.size; simp at this; omega) (fun k hk => by omega))
end Go.Proofs.YtjpdebgejlfeaaaDoor
