/- The law's own cumulative: three rows that grow side by side, held by a model and a constraint. -/
import Derived.Test.YtdiedghaoleblaaConsA
import Derived.Test.YtdiedghaoleblaaAppZ
namespace Go.Proofs.Ytdiedghaoleblaa
open Go.RowKit

theorem run_appIO (w : World) (ty : TypeId) (base : Nat) (v : Value) (xs : List Int) (x : Int) (b c : Nat) (hown : AppI base w v xs) (hc : w.cell? ⟨b, 0, none⟩ = some (.int .i64 x)) (hl : xs.length ≤ 1000000) (hb : base ≤ w.heap.size) :
    ∃ v' w', (Builtin.append_ #[24, 24] ty #[v, .slice (some ⟨b, 0, none⟩) 1 c]).run Try.prog w = .ok v' w' ∧ AppI base w' v' (xs ++ [x]) ∧ w.grownBy w' v.ownBlock ∧ (∀ g, v'.ownBlock = some g → v.ownBlock = some g ∨ w.heap.size ≤ g) := by
  obtain ⟨i, hi, hz, hsz, hby⟩ := Try.infoIp
  obtain ⟨v', w', e1, e2, e3, e4⟩ := run_append_kind (P := Try.prog) w base 24 ty 3 i (.int .i64 0) 8 Try.underlying24 hi hz hsz hby rfl v xs.length (xs.map vI) hown b c (.int .i64 x) hc rfl (by unfold maxLen; omega) (by omega) hb
  exact ⟨v', w', e1, by unfold AppI; simpa [vI] using e2, e3, e4⟩
theorem step_appIO (w : World) {ops : Array Oper} {o : Oper} {a : Act} {K : Act → World → Prop} {Q : Exit → Act → World → Prop} {E : Prop} (hgd : o.guard = none) (s y : Operand)
    (ho : o.op = .call { callee := .builtin .append, args := #[s, y], argTypes := #[24, 24] })
    (base : Nat) (v : Value) (xs : List Int) (x : Int) (b c : Nat) (hs : a.eval s = v) (hy : a.eval y = .slice (some ⟨b, 0, none⟩) 1 c)
    (hown : AppI base w v xs) (hc : w.cell? ⟨b, 0, none⟩ = some (.int .i64 x)) (hl : xs.length ≤ 1000000) (hb : base ≤ w.heap.size)
    (h : ∀ v' w', AppI base w' v' (xs ++ [x]) → w.grownBy w' v.ownBlock → (∀ g, v'.ownBlock = some g → v.ownBlock = some g ∨ w.heap.size ≤ g) → K (a.put o.dst v') w') :
    if Region.wanted o (yielded ops a.tmps) = true then Oper.wp Try.prog o a w K Q else E := by
  have hw : Region.wanted o (yielded ops a.tmps) = true := by simp [Region.wanted, hgd]
  rw [if_pos hw]
  obtain ⟨v', w', hrun, h1, h2, h3⟩ := run_appIO w o.type base v xs x b c hown hc hl hb
  unfold Oper.wp
  simp [execOp, ho, resolve, invoke, builtin, hs, hy, hrun, Result.andThen]
  exact h v' w' h1 h2 h3
theorem wpList_appIO (w : World) {ops : Array Oper} {rest : List Oper} {o : Oper} {a : Act} {Q : Exit → Act → World → Prop} (hgd : o.guard = none) (s y : Operand)
    (ho : o.op = .call { callee := .builtin .append, args := #[s, y], argTypes := #[24, 24] })
    (base : Nat) (v : Value) (xs : List Int) (x : Int) (b c : Nat) (hs : a.eval s = v) (hy : a.eval y = .slice (some ⟨b, 0, none⟩) 1 c)
    (hown : AppI base w v xs) (hc : w.cell? ⟨b, 0, none⟩ = some (.int .i64 x)) (hl : xs.length ≤ 1000000) (hb : base ≤ w.heap.size)
    (h : ∀ v' w', AppI base w' v' (xs ++ [x]) → w.grownBy w' v.ownBlock → (∀ g, v'.ownBlock = some g → v.ownBlock = some g ∨ w.heap.size ≤ g) → wpList Try.prog ops Q rest (a.put o.dst v') w') : wpList Try.prog ops Q (o :: rest) a w := by
  obtain ⟨v', w', hrun, h1, h2, h3⟩ := run_appIO w o.type base v xs x b c hown hc hl hb
  refine wpList_plain hgd fun K hK => ?_
  unfold Oper.wp
  simp [execOp, ho, resolve, invoke, builtin, hs, hy, hrun, Result.andThen]
  exact hK _ _ (h v' w' h1 h2 h3)
theorem AppI.keep {base : Nat} {S : Nat → Prop} {w w' : World} {v : Value} {xs : List Int} (h : AppI base w v xs) (hk : Keep S w w') (hS : ∀ g, v.ownBlock = some g → S g) : AppI base w' v xs := by
  refine ⟨h.1, ?_⟩
  rcases h.2 with hn | ⟨g, cap, cur, e, hb, hgg, rest⟩
  · exact .inl hn
  · exact .inr ⟨g, cap, cur, e, hb, (hk.block g (Array.getElem?_eq_some_iff.1 hgg).1 (hS g (by rw [e]; rfl))).trans hgg, rest⟩
theorem AppI.sints {base : Nat} {w : World} {v : Value} {xs : List Int} (h : AppI base w v xs) (hl : xs.length ≤ 1000000) (hi : ∀ i, i < xs.length → I64 (at0 xs i)) : SInts w v xs := by
  rcases h.2 with ⟨h1, h2⟩ | ⟨g, cap, cur, h1, hg, hh, hnc, hm, hcs, htk⟩
  · exact ⟨none, 0, by rw [h1, h2], by omega, by omega, hi, fun hp => absurd hp (by omega)⟩
  · refine ⟨_, _, h1, hnc, by omega, hi, fun _ => ⟨g, 0, rfl, (Array.getElem?_eq_some_iff.1 hh).1, fun i hi' => ?_⟩⟩
    have e1 : (cur.toList.take (xs.length * 1))[i]? = (xs.map vI)[i]? := by rw [htk]
    rw [List.getElem?_take, if_pos (by omega), List.getElem?_map, List.getElem?_eq_getElem hi', Array.getElem?_toList] at e1
    unfold at0
    rw [getD_lt _ _ hi']
    simp [World.cell?, hh, e1, vI]
/-- The three rows and the cells that hold them: m is the model's block, c the constraint's. -/
structure CumSt (w0 : World) (m c : Nat) (cap : Int) (vd vv va : Value) (ds vs us : List Int) (W : World) : Prop where
  d : AppI w0.heap.size W vd ds
  v : AppI w0.heap.size W vv vs
  a : AppI w0.heap.size W va us
  dv : ∀ g, vd.ownBlock = some g → g ≠ m ∧ g ≠ c ∧ vv.ownBlock ≠ some g ∧ va.ownBlock ≠ some g
  vo : ∀ g, vv.ownBlock = some g → g ≠ m ∧ g ≠ c ∧ vd.ownBlock ≠ some g ∧ va.ownBlock ≠ some g
  ao : ∀ g, va.ownBlock = some g → g ≠ m ∧ g ≠ c ∧ vd.ownBlock ≠ some g ∧ vv.ownBlock ≠ some g
  m0 : W.cell? ⟨m, 0, none⟩ = some vd
  m1 : W.cell? ⟨m, 1, none⟩ = some (.slice none 0 0)
  c0 : W.cell? ⟨c, 0, none⟩ = some (.int .i64 7)
  c1 : W.cell? ⟨c, 1, none⟩ = some vv
  c2 : W.cell? ⟨c, 2, none⟩ = some va
  c3 : W.cell? ⟨c, 3, none⟩ = some (.int .i64 cap)
  c4 : W.cell? ⟨c, 4, none⟩ = some (.slice none 0 0)
  zm : W.frozen? ⟨m, 0, none⟩ = false
  zn : W.frozen? ⟨m, 1, none⟩ = false
  zv : W.frozen? ⟨c, 1, none⟩ = false
  za : W.frozen? ⟨c, 2, none⟩ = false
  lm : m < W.heap.size
  lc : c < W.heap.size
  gm : w0.heap.size ≤ m
  gc : w0.heap.size ≤ c
  ne : m ≠ c
  ext : Ext w0 W
theorem CumSt.keep {w0 : World} {m c : Nat} {cap : Int} {vd vv va : Value} {ds vs us : List Int} {W W' : World} {S : Nat → Prop} (h : CumSt w0 m c cap vd vv va ds vs us W) (k : Keep S W W') (hm : S m) (hc : S c)
    (h0 : ∀ g, g < w0.heap.size → S g) (hd : ∀ g, vd.ownBlock = some g → S g) (hv : ∀ g, vv.ownBlock = some g → S g) (ha : ∀ g, va.ownBlock = some g → S g) : CumSt w0 m c cap vd vv va ds vs us W' :=
  ⟨h.d.keep k hd, h.v.keep k hv, h.a.keep k ha, h.dv, h.vo, h.ao, (k.cell (p := ⟨m, 0, none⟩) h.lm hm).trans h.m0, (k.cell (p := ⟨m, 1, none⟩) h.lm hm).trans h.m1,
   (k.cell (p := ⟨c, 0, none⟩) h.lc hc).trans h.c0, (k.cell (p := ⟨c, 1, none⟩) h.lc hc).trans h.c1, (k.cell (p := ⟨c, 2, none⟩) h.lc hc).trans h.c2, (k.cell (p := ⟨c, 3, none⟩) h.lc hc).trans h.c3, (k.cell (p := ⟨c, 4, none⟩) h.lc hc).trans h.c4,
   (k.frz (p := ⟨m, 0, none⟩) h.lm hm).trans h.zm, (k.frz (p := ⟨m, 1, none⟩) h.lm hm).trans h.zn, (k.frz (p := ⟨c, 1, none⟩) h.lc hc).trans h.zv, (k.frz (p := ⟨c, 2, none⟩) h.lc hc).trans h.za,
   Nat.lt_of_lt_of_le h.lm k.size, Nat.lt_of_lt_of_le h.lc k.size, h.gm, h.gc, h.ne, Below.trans h.ext (k.below h.ext.size h0)⟩
theorem CumSt.grow {w0 : World} {m c : Nat} {cap : Int} {vd vv va : Value} {ds vs us : List Int} {W W' : World} (h : CumSt w0 m c cap vd vv va ds vs us W) (hx : Ext W W') : CumSt w0 m c cap vd vv va ds vs us W' :=
  h.keep (hx.keep (fun _ => True)) trivial trivial (fun _ _ => trivial) (fun _ _ => trivial) (fun _ _ => trivial) (fun _ _ => trivial)
theorem CumSt.addD {w0 : World} {m c : Nat} {cap : Int} {vd vv va vd' : Value} {ds vs us : List Int} {W W' : World} {x : Int} (h : CumSt w0 m c cap vd vv va ds vs us W)
    (hA : AppI w0.heap.size W' vd' (ds ++ [x])) (hg : W.grownBy W' vd.ownBlock) (ho : ∀ g, vd'.ownBlock = some g → vd.ownBlock = some g ∨ W.heap.size ≤ g) : CumSt w0 m c cap vd' vv va (ds ++ [x]) vs us (W'.setCell ⟨m, 0, none⟩ vd') := by
  have k := Keep.of_grown hg
  have k2 : Keep (fun g => vd.ownBlock ≠ some g ∧ g ≠ m) W (W'.setCell ⟨m, 0, none⟩ vd') := (k.mono (fun _ _ t => t.1)).set (fun _ t => t.2 rfl) _
  have hnm : ∀ g, vd.ownBlock = some g → g ≠ m := fun g e => (h.dv g e).1
  have hmv : vd.ownBlock ≠ some m := fun e => (h.dv m e).1 rfl
  have hcv : vd.ownBlock ≠ some c := fun e => (h.dv c e).2.1 rfl
  have lt3 := fun g e => (World.ownsRow.lt h.v g e)
  have lt4 := fun g e => (World.ownsRow.lt h.a g e)
  have hlt : ∀ g, vd.ownBlock = some g → w0.heap.size ≤ g := fun g e => (World.ownsRow.lt h.d g e).1
  have hm' : W'.heap.size ≥ W.heap.size := k.size
  have kmk : Keep (fun g => g ≠ m) W' (W'.setCell ⟨m, 0, none⟩ vd') := (Keep.refl _ W').set (fun _ t => t rfl) _
  have dv' : ∀ g, vd'.ownBlock = some g → g ≠ m ∧ g ≠ c ∧ vv.ownBlock ≠ some g ∧ va.ownBlock ≠ some g := fun g e => (ho g e).elim (h.dv g) (fun hge => ⟨by have := h.lm; omega, by have := h.lc; omega, fun e => by have := (lt3 g e).2; omega, fun e => by have := (lt4 g e).2; omega⟩)
  refine ⟨hA.keep kmk (fun g e => (dv' g e).1), h.v.keep k2 (fun g e => ⟨fun e2 => (h.dv g e2).2.2.1 e, (h.vo g e).1⟩), h.a.keep k2 (fun g e => ⟨fun e2 => (h.dv g e2).2.2.2 e, (h.ao g e).1⟩), dv',
    fun g e => ⟨(h.vo g e).1, (h.vo g e).2.1, fun e2 => (dv' g e2).2.2.1 e, (h.vo g e).2.2.2⟩, fun g e => ⟨(h.ao g e).1, (h.ao g e).2.1, fun e2 => (dv' g e2).2.2.2 e, (h.ao g e).2.2.2⟩,
    World.cell?_setCell_same' _ _ _ (by rw [k.cell (p := ⟨m, 0, none⟩) h.lm hmv, h.m0]; rfl),
    (World.cell?_setCell_other _ _ _ _ (by simp)).trans ((k.cell (p := ⟨m, 1, none⟩) h.lm hmv).trans h.m1),
    (k2.cell (p := ⟨c, 0, none⟩) h.lc ⟨hcv, h.ne.symm⟩).trans h.c0, (k2.cell (p := ⟨c, 1, none⟩) h.lc ⟨hcv, h.ne.symm⟩).trans h.c1, (k2.cell (p := ⟨c, 2, none⟩) h.lc ⟨hcv, h.ne.symm⟩).trans h.c2, (k2.cell (p := ⟨c, 3, none⟩) h.lc ⟨hcv, h.ne.symm⟩).trans h.c3, (k2.cell (p := ⟨c, 4, none⟩) h.lc ⟨hcv, h.ne.symm⟩).trans h.c4,
    (World.frozen?_setCell ..).trans ((k.frz (p := ⟨m, 0, none⟩) h.lm hmv).trans h.zm), (World.frozen?_setCell ..).trans ((k.frz (p := ⟨m, 1, none⟩) h.lm hmv).trans h.zn),
    (k2.frz (p := ⟨c, 1, none⟩) h.lc ⟨hcv, h.ne.symm⟩).trans h.zv, (k2.frz (p := ⟨c, 2, none⟩) h.lc ⟨hcv, h.ne.symm⟩).trans h.za,
    Nat.lt_of_lt_of_le h.lm k2.size, Nat.lt_of_lt_of_le h.lc k2.size, h.gm, h.gc, h.ne,
    Below.trans h.ext (k2.below h.ext.size (fun g hg => ⟨fun e => by have := hlt g e; omega, by have := h.gm; omega⟩))⟩
theorem CumSt.addV {w0 : World} {m c : Nat} {cap : Int} {vd vv va vx : Value} {ds vs us : List Int} {W W' : World} {x : Int} (h : CumSt w0 m c cap vd vv va ds vs us W)
    (hA : AppI w0.heap.size W' vx (vs ++ [x])) (hg : W.grownBy W' vv.ownBlock) (ho : ∀ g, vx.ownBlock = some g → vv.ownBlock = some g ∨ W.heap.size ≤ g) : CumSt w0 m c cap vd vx va ds (vs ++ [x]) us (W'.setCell ⟨c, 1, none⟩ vx) := by
  have k := Keep.of_grown hg
  have k2 : Keep (fun g => vv.ownBlock ≠ some g ∧ g ≠ c) W (W'.setCell ⟨c, 1, none⟩ vx) := (k.mono (fun _ _ t => t.1)).set (fun _ t => t.2 rfl) _
  have hmv : vv.ownBlock ≠ some m := fun e => (h.vo m e).1 rfl
  have hcv : vv.ownBlock ≠ some c := fun e => (h.vo c e).2.1 rfl
  have lt3 := fun g e => (World.ownsRow.lt h.d g e)
  have lt4 := fun g e => (World.ownsRow.lt h.a g e)
  have hlt : ∀ g, vv.ownBlock = some g → w0.heap.size ≤ g := fun g e => (World.ownsRow.lt h.v g e).1
  have kmk : Keep (fun g => g ≠ c) W' (W'.setCell ⟨c, 1, none⟩ vx) := (Keep.refl _ W').set (fun _ t => t rfl) _
  have dv' : ∀ g, vx.ownBlock = some g → g ≠ m ∧ g ≠ c ∧ vd.ownBlock ≠ some g ∧ va.ownBlock ≠ some g := fun g e => (ho g e).elim (h.vo g) (fun hge => ⟨by have := h.lm; omega, by have := h.lc; omega, fun e => by have := (lt3 g e).2; omega, fun e => by have := (lt4 g e).2; omega⟩)
  have cc : ∀ j, j ≠ 1 → (W'.setCell ⟨c, 1, none⟩ vx).cell? ⟨c, j, none⟩ = W.cell? ⟨c, j, none⟩ := fun j hj => (World.cell?_setCell_other _ _ _ _ (by intro e; injection e with _ e; exact hj e.symm)).trans (k.cell (p := ⟨c, j, none⟩) h.lc hcv)
  have cs : (W'.setCell ⟨c, 1, none⟩ vx).cell? ⟨c, 1, none⟩ = some vx := World.cell?_setCell_same' _ _ _ (by rw [k.cell (p := ⟨c, 1, none⟩) h.lc hcv, h.c1]; rfl)
  exact {
    d := h.d.keep k2 (fun g e => ⟨fun e2 => (h.vo g e2).2.2.1 e, (h.dv g e).2.1⟩)
    v := hA.keep kmk (fun g e => (dv' g e).2.1)
    a := h.a.keep k2 (fun g e => ⟨fun e2 => (h.vo g e2).2.2.2 e, (h.ao g e).2.1⟩)
    dv := fun g e => ⟨(h.dv g e).1, (h.dv g e).2.1, fun e2 => (dv' g e2).2.2.1 e, (h.dv g e).2.2.2⟩
    vo := dv'
    ao := fun g e => ⟨(h.ao g e).1, (h.ao g e).2.1, (h.ao g e).2.2.1, fun e2 => (dv' g e2).2.2.2 e⟩
    m0 := (k2.cell (p := ⟨m, 0, none⟩) h.lm ⟨hmv, h.ne⟩).trans h.m0
    m1 := (k2.cell (p := ⟨m, 1, none⟩) h.lm ⟨hmv, h.ne⟩).trans h.m1
    c0 := (cc 0 (by omega)).trans h.c0
    c1 := cs
    c2 := (cc 2 (by omega)).trans h.c2
    c3 := (cc 3 (by omega)).trans h.c3
    c4 := (cc 4 (by omega)).trans h.c4
    zm := (k2.frz (p := ⟨m, 0, none⟩) h.lm ⟨hmv, h.ne⟩).trans h.zm
    zn := (k2.frz (p := ⟨m, 1, none⟩) h.lm ⟨hmv, h.ne⟩).trans h.zn
    zv := (World.frozen?_setCell ..).trans ((k.frz (p := ⟨c, 1, none⟩) h.lc hcv).trans h.zv)
    za := (World.frozen?_setCell ..).trans ((k.frz (p := ⟨c, 2, none⟩) h.lc hcv).trans h.za)
    lm := Nat.lt_of_lt_of_le h.lm k2.size
    lc := Nat.lt_of_lt_of_le h.lc k2.size
    gm := h.gm
    gc := h.gc
    ne := h.ne
    ext := Below.trans h.ext (k2.below h.ext.size (fun g hg => ⟨fun e => by have := hlt g e; omega, by have := h.gc; omega⟩)) }
theorem CumSt.addA {w0 : World} {m c : Nat} {cap : Int} {vd vv va vx : Value} {ds vs us : List Int} {W W' : World} {x : Int} (h : CumSt w0 m c cap vd vv va ds vs us W)
    (hA : AppI w0.heap.size W' vx (us ++ [x])) (hg : W.grownBy W' va.ownBlock) (ho : ∀ g, vx.ownBlock = some g → va.ownBlock = some g ∨ W.heap.size ≤ g) : CumSt w0 m c cap vd vv vx ds vs (us ++ [x]) (W'.setCell ⟨c, 2, none⟩ vx) := by
  have k := Keep.of_grown hg
  have k2 : Keep (fun g => va.ownBlock ≠ some g ∧ g ≠ c) W (W'.setCell ⟨c, 2, none⟩ vx) := (k.mono (fun _ _ t => t.1)).set (fun _ t => t.2 rfl) _
  have hmv : va.ownBlock ≠ some m := fun e => (h.ao m e).1 rfl
  have hcv : va.ownBlock ≠ some c := fun e => (h.ao c e).2.1 rfl
  have lt3 := fun g e => (World.ownsRow.lt h.d g e)
  have lt4 := fun g e => (World.ownsRow.lt h.v g e)
  have hlt : ∀ g, va.ownBlock = some g → w0.heap.size ≤ g := fun g e => (World.ownsRow.lt h.a g e).1
  have kmk : Keep (fun g => g ≠ c) W' (W'.setCell ⟨c, 2, none⟩ vx) := (Keep.refl _ W').set (fun _ t => t rfl) _
  have dv' : ∀ g, vx.ownBlock = some g → g ≠ m ∧ g ≠ c ∧ vd.ownBlock ≠ some g ∧ vv.ownBlock ≠ some g := fun g e => (ho g e).elim (h.ao g) (fun hge => ⟨by have := h.lm; omega, by have := h.lc; omega, fun e => by have := (lt3 g e).2; omega, fun e => by have := (lt4 g e).2; omega⟩)
  have cc : ∀ j, j ≠ 2 → (W'.setCell ⟨c, 2, none⟩ vx).cell? ⟨c, j, none⟩ = W.cell? ⟨c, j, none⟩ := fun j hj => (World.cell?_setCell_other _ _ _ _ (by intro e; injection e with _ e; exact hj e.symm)).trans (k.cell (p := ⟨c, j, none⟩) h.lc hcv)
  have cs : (W'.setCell ⟨c, 2, none⟩ vx).cell? ⟨c, 2, none⟩ = some vx := World.cell?_setCell_same' _ _ _ (by rw [k.cell (p := ⟨c, 2, none⟩) h.lc hcv, h.c2]; rfl)
  exact {
    d := h.d.keep k2 (fun g e => ⟨fun e2 => (h.ao g e2).2.2.1 e, (h.dv g e).2.1⟩)
    v := h.v.keep k2 (fun g e => ⟨fun e2 => (h.ao g e2).2.2.2 e, (h.vo g e).2.1⟩)
    a := hA.keep kmk (fun g e => (dv' g e).2.1)
    dv := fun g e => ⟨(h.dv g e).1, (h.dv g e).2.1, (h.dv g e).2.2.1, fun e2 => (dv' g e2).2.2.1 e⟩
    vo := fun g e => ⟨(h.vo g e).1, (h.vo g e).2.1, (h.vo g e).2.2.1, fun e2 => (dv' g e2).2.2.2 e⟩
    ao := dv'
    m0 := (k2.cell (p := ⟨m, 0, none⟩) h.lm ⟨hmv, h.ne⟩).trans h.m0
    m1 := (k2.cell (p := ⟨m, 1, none⟩) h.lm ⟨hmv, h.ne⟩).trans h.m1
    c0 := (cc 0 (by omega)).trans h.c0
    c1 := (cc 1 (by omega)).trans h.c1
    c2 := cs
    c3 := (cc 3 (by omega)).trans h.c3
    c4 := (cc 4 (by omega)).trans h.c4
    zm := (k2.frz (p := ⟨m, 0, none⟩) h.lm ⟨hmv, h.ne⟩).trans h.zm
    zn := (k2.frz (p := ⟨m, 1, none⟩) h.lm ⟨hmv, h.ne⟩).trans h.zn
    zv := (World.frozen?_setCell ..).trans ((k.frz (p := ⟨c, 1, none⟩) h.lc hcv).trans h.zv)
    za := (World.frozen?_setCell ..).trans ((k.frz (p := ⟨c, 2, none⟩) h.lc hcv).trans h.za)
    lm := Nat.lt_of_lt_of_le h.lm k2.size
    lc := Nat.lt_of_lt_of_le h.lc k2.size
    gm := h.gm
    gc := h.gc
    ne := h.ne
    ext := Below.trans h.ext (k2.below h.ext.size (fun g hg => ⟨fun e => by have := hlt g e; omega, by have := h.gc; omega⟩)) }
theorem CumSt.roomD {w0 : World} {m c : Nat} {cap : Int} {vd vv va : Value} {ds vs us : List Int} {W W' : World} (h : CumSt w0 m c cap vd vv va ds vs us W) (hg : W.grownBy W' vd.ownBlock) : W'.cell? ⟨m, 0, none⟩ = some vd ∧ W'.frozen? ⟨m, 0, none⟩ = false :=
  ⟨((Keep.of_grown hg).cell (p := ⟨m, 0, none⟩) h.lm (fun e => (h.dv m e).1 rfl)).trans h.m0, ((Keep.of_grown hg).frz (p := ⟨m, 0, none⟩) h.lm (fun e => (h.dv m e).1 rfl)).trans h.zm⟩
theorem CumSt.roomV {w0 : World} {m c : Nat} {cap : Int} {vd vv va : Value} {ds vs us : List Int} {W W' : World} (h : CumSt w0 m c cap vd vv va ds vs us W) (hg : W.grownBy W' vv.ownBlock) : W'.cell? ⟨c, 1, none⟩ = some vv ∧ W'.frozen? ⟨c, 1, none⟩ = false :=
  ⟨((Keep.of_grown hg).cell (p := ⟨c, 1, none⟩) h.lc (fun e => (h.vo c e).2.1 rfl)).trans h.c1, ((Keep.of_grown hg).frz (p := ⟨c, 1, none⟩) h.lc (fun e => (h.vo c e).2.1 rfl)).trans h.zv⟩
theorem CumSt.roomA {w0 : World} {m c : Nat} {cap : Int} {vd vv va : Value} {ds vs us : List Int} {W W' : World} (h : CumSt w0 m c cap vd vv va ds vs us W) (hg : W.grownBy W' va.ownBlock) : W'.cell? ⟨c, 2, none⟩ = some va ∧ W'.frozen? ⟨c, 2, none⟩ = false :=
  ⟨((Keep.of_grown hg).cell (p := ⟨c, 2, none⟩) h.lc (fun e => (h.ao c e).2.1 rfl)).trans h.c2, ((Keep.of_grown hg).frz (p := ⟨c, 2, none⟩) h.lc (fun e => (h.ao c e).2.1 rfl)).trans h.za⟩
/-- Orders that come to one: the walk goes on once. -/
theorem wp_merge {P : Program} {c : Code} {Q : Exit → Act → World → Prop} {a : Act} {w : World} (Po : Option Addr → Nat → World → Prop) (F : Option Addr → Nat → Act)
    (h : c.wp P (fun e a' W' => e = .normal ∧ ∃ A' c', Po A' c' W' ∧ a' = F A' c') a w) (hq : ∀ A' c' W', Po A' c' W' → Q .normal (F A' c') W') : c.wp P Q a w :=
  Code.wp_mono (fun e a' W' ⟨h1, A', c', h2, h3⟩ => by subst h1; subst h3; exact hq A' c' W' h2) h
end Go.Proofs.Ytdiedghaoleblaa
