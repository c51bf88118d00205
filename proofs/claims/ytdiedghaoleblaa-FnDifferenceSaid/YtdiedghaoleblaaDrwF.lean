/- Draws of the generator: a list of constraints in the making. -/
import Derived.Test.YtdiedghaoleblaaDrwE
import Derived.Deep.CutBlock
import Derived.Deep.DeepCutAuto
import Derived.Test.YtdiedghaoleblaaFltZ
namespace Go.Proofs.Ytdiedghaoleblaa
open Go.RowKit

/-- What five values read as. -/
def CV5 (L : Nat) (S : Nat → Prop) (w : World) (F : Nat → Option Value) (c : Con) : Prop :=
  ∃ vv va vr, F 0 = some (.int .i64 c.kk) ∧ F 1 = some vv ∧ F 2 = some va ∧ F 3 = some (.int .i64 c.bound) ∧ F 4 = some vr ∧ IV S w vv c.vars ∧ IV S w va c.args ∧ RV S w vr c.rows ∧ (0 < c.vars.length ∧ c.vars.length ≤ L ∧ c.args.length ≤ L)
theorem CV5.wide {L M : Nat} {S : Nat → Prop} {w : World} {F : Nat → Option Value} {c : Con} (h : CV5 L S w F c) (hL : L ≤ M) : CV5 M S w F c := by
  obtain ⟨vv, va, vr, e0, e1, e2, e3, e4, h1, h2, h3, h4⟩ := h
  exact ⟨vv, va, vr, e0, e1, e2, e3, e4, h1, h2, h3, by omega⟩
theorem CV5.keep {L : Nat} {S T : Nat → Prop} {w w' : World} {F : Nat → Option Value} {c : Con} (h : CV5 L S w F c) (hk : Keep T w w') (hS : ∀ k, S k → T k) : CV5 L S w' F c := by
  obtain ⟨vv, va, vr, e0, e1, e2, e3, e4, h1, h2, h3, h4⟩ := h
  exact ⟨vv, va, vr, e0, e1, e2, e3, e4, h1.keep hk hS, h2.keep hk hS, h3.keep hk hS, h4⟩
theorem CV5.mono {L : Nat} {S T : Nat → Prop} {w : World} {F : Nat → Option Value} {c : Con} (h : CV5 L S w F c) (hS : ∀ k, S k → T k) : CV5 L T w F c := by
  obtain ⟨vv, va, vr, e0, e1, e2, e3, e4, h1, h2, h3, h4⟩ := h
  exact ⟨vv, va, vr, e0, e1, e2, e3, e4, h1.mono hS, h2.mono hS, h3.mono hS, h4⟩
theorem CV5.cast {L : Nat} {S : Nat → Prop} {w : World} {F G : Nat → Option Value} {c : Con} (h : CV5 L S w F c) (hFG : ∀ j, j < 5 → F j = G j) : CV5 L S w G c := by
  obtain ⟨vv, va, vr, e0, e1, e2, e3, e4, h⟩ := h
  exact ⟨vv, va, vr, (hFG 0 (by omega)).symm.trans e0, (hFG 1 (by omega)).symm.trans e1, (hFG 2 (by omega)).symm.trans e2, (hFG 3 (by omega)).symm.trans e3, (hFG 4 (by omega)).symm.trans e4, h⟩
theorem IV.oneC {S : Nat → Prop} {w : World} {v : Value} {xs : List Int} (h : IV S w v xs) : v.oneCell' = true := by
  obtain ⟨A, c, rfl, -⟩ := h.form; rfl
theorem RV.oneC {S : Nat → Prop} {w : World} {v : Value} {rs : List (List Int)} (h : RV S w v rs) : v.oneCell' = true := by
  obtain ⟨A, c, rfl, -⟩ := h.1.form; rfl
end Go.Proofs.Ytdiedghaoleblaa
/- Draws of the generator: a model. -/
namespace Go.Proofs.Ytdiedghaoleblaa
open Go.RowKit

theorem LR.keepb {base : Nat} {e : TypeId} {size : Nat} {w w' : World} {v : Value} {n : Nat} {lo hi : Int} {S : Nat → Prop} (h : LR base e size w v n lo hi) (hk : Keep S w w') (hS : ∀ g, v.ownBlock = some g → S g) : LR base e size w' v n lo hi := by
  obtain ⟨g, cap, f, h1, h2, h3, h3', h4, h5⟩ := h
  exact ⟨g, cap, f, h1, h2, h3, h3', hk.row (hS g (by rw [h1]; rfl)) h4, h5⟩
/-- A model in the making, in block mc; the block of the result beside it. -/
structure MB (w0 : World) (br rb mc N : Nat) (W wr : World) (dv cv : Value) : Prop where
  c0 : wr.cell? ⟨mc, 0, none⟩ = some dv
  c1 : wr.cell? ⟨mc, 1, none⟩ = some cv
  fz : ∀ i, wr.frozen? ⟨mc, i, none⟩ = false
  r : RB rb 2 wr
  rd : RdSt w0 br N wr
  kp : Keep (fun k => k ≠ br) W wr
  b0 : W.heap.size ≤ mc
  b1 : mc < wr.heap.size
  r0 : W.heap.size ≤ rb
  ne : rb ≠ mc
  br0 : br < W.heap.size
  w00 : w0.heap.size ≤ W.heap.size
theorem MB.keep {w0 : World} {br rb mc N M : Nat} {W wr w2 : World} {dv cv : Value} (h : MB w0 br rb mc N W wr dv cv) (hR : RdSt w0 br M w2) (hK : Keep (fun k => k ≠ br) wr w2) : MB w0 br rb mc M W w2 dv cv := by
  have b0 := h.b0
  have r0 := h.r0
  have br0 := h.br0
  exact ⟨(hK.cell (p := ⟨mc, 0, none⟩) h.b1 (by show mc ≠ br; omega)).trans h.c0, (hK.cell (p := ⟨mc, 1, none⟩) h.b1 (by show mc ≠ br; omega)).trans h.c1, fun i => (hK.frz (p := ⟨mc, i, none⟩) h.b1 (by show mc ≠ br; omega)).trans (h.fz i),
    h.r.keep hK (by omega), hR, h.kp.trans hK, b0, Nat.lt_of_lt_of_le h.b1 hK.size, r0, h.ne, br0, h.w00⟩
theorem MB.mono {w0 : World} {br rb mc N M : Nat} {W wr : World} {dv cv : Value} (h : MB w0 br rb mc N W wr dv cv) (hN : N ≤ M) : MB w0 br rb mc M W wr dv cv := h.keep (h.rd.mono hN) (Keep.refl _ _)
theorem MB.grow {w0 : World} {br rb mc N : Nat} {W wr w2 : World} {dv cv : Value} (h : MB w0 br rb mc N W wr dv cv) (hx : Ext wr w2) : MB w0 br rb mc N W w2 dv cv := h.keep (h.rd.grow hx) (hx.keep _)
theorem MB.far {w0 : World} {br rb mc N base : Nat} {W wr w2 : World} {dv cv : Value} (h : MB w0 br rb mc N W wr dv cv) (hk : Keep (fun k => k < base) wr w2) (h1 : mc < base) (h2 : rb < base) : MB w0 br rb mc N W w2 dv cv := by
  have b0 := h.b0
  have br0 := h.br0
  have hw0 := h.w00
  exact ⟨(hk.cell (p := ⟨mc, 0, none⟩) h.b1 h1).trans h.c0, (hk.cell (p := ⟨mc, 1, none⟩) h.b1 h1).trans h.c1, fun i => (hk.frz (p := ⟨mc, i, none⟩) h.b1 h1).trans (h.fz i),
    h.r.keep hk h2, h.rd.keep hk (by omega) (fun k hk => by omega), h.kp.trans9 hk (fun k hk _ => by omega), b0, Nat.lt_of_lt_of_le h.b1 hk.size, h.r0, h.ne, br0, hw0⟩
theorem MB.setk {w0 : World} {br rb mc N : Nat} {W wr : World} {dv cv : Value} (_h : MB w0 br rb mc N W wr dv cv) (i : Nat) (u : Value) : Keep (fun k => k ≠ mc) wr (wr.setCell ⟨mc, i, none⟩ u) := (Keep.refl (fun k => k ≠ mc) wr).set (p := ⟨mc, i, none⟩) (fun _ hh => hh rfl) u
theorem MB.set0 {w0 : World} {br rb mc N : Nat} {W wr : World} {dv cv : Value} (h : MB w0 br rb mc N W wr dv cv) (u : Value) : MB w0 br rb mc N W (wr.setCell ⟨mc, 0, none⟩ u) u cv := by
  have b0 := h.b0
  have br0 := h.br0
  have hw0 := h.w00
  have hk := h.setk 0 u
  exact ⟨World.cell?_setCell_same' _ _ _ (by rw [h.c0]; rfl), (World.cell?_setCell_other _ _ _ _ (by simp)).trans h.c1, fun i => (World.frozen?_setCell ..).trans (h.fz i), h.r.keep hk h.ne,
    h.rd.keep hk (by omega) (fun k hk => by omega), h.kp.trans9 hk (fun k hk _ => by omega), b0, Nat.lt_of_lt_of_le h.b1 hk.size, h.r0, h.ne, br0, hw0⟩
theorem MB.set1 {w0 : World} {br rb mc N : Nat} {W wr : World} {dv cv : Value} (h : MB w0 br rb mc N W wr dv cv) (u : Value) : MB w0 br rb mc N W (wr.setCell ⟨mc, 1, none⟩ u) dv u := by
  have b0 := h.b0
  have br0 := h.br0
  have hw0 := h.w00
  have hk := h.setk 1 u
  exact ⟨(World.cell?_setCell_other _ _ _ _ (by simp)).trans h.c0, World.cell?_setCell_same' _ _ _ (by rw [h.c1]; rfl), fun i => (World.frozen?_setCell ..).trans (h.fz i), h.r.keep hk h.ne,
    h.rd.keep hk (by omega) (fun k hk => by omega), h.kp.trans9 hk (fun k hk _ => by omega), b0, Nat.lt_of_lt_of_le h.b1 hk.size, h.r0, h.ne, br0, hw0⟩
theorem RB.two {rb : Nat} {w : World} (h : RB rb 2 w) : rb < w.heap.size ∧ ∃ u0 u1, w.cell? ⟨rb, 0, none⟩ = some u0 ∧ w.cell? ⟨rb, 1, none⟩ = some u1 ∧ w.frozen? ⟨rb, 0, none⟩ = false ∧ w.frozen? ⟨rb, 1, none⟩ = false := by
  obtain ⟨h1, h2, h3⟩ := h
  obtain ⟨u0, a0⟩ := h3 0 (by omega)
  obtain ⟨u1, a1⟩ := h3 1 (by omega)
  exact ⟨h1, u0, u1, a0, a1, h2 _, h2 _⟩
theorem MB.start {w0 : World} {br N : Nat} {W w1 : World} {t t' : TypeId} {x0 x1 : Value} (hR : RdSt w0 br N w1) (hK : Keep (fun k => k ≠ br) ((W.alloc (.cells #[x0, x1] t)).alloc (.cells #[.slice none 0 0, .slice none 0 0] t')) w1) (hbr : br < W.heap.size) (hw : w0.heap.size ≤ W.heap.size) :
    MB w0 br W.heap.size (W.heap.size + 1) N W w1 (.slice none 0 0) (.slice none 0 0) := by
  have hx : Ext (W.alloc (.cells #[x0, x1] t)) ((W.alloc (.cells #[x0, x1] t)).alloc (.cells #[.slice none 0 0, .slice none 0 0] t')) := (Ext.refl _).alloc _
  have hs : (W.alloc (.cells #[x0, x1] t)).heap.size = W.heap.size + 1 := by simp
  have hs2 : ((W.alloc (.cells #[x0, x1] t)).alloc (.cells #[.slice none 0 0, .slice none 0 0] t')).heap.size = W.heap.size + 2 := by simp
  have hn : W.heap.size + 1 ≠ br := by omega
  refine ⟨(hK.cell (p := ⟨W.heap.size + 1, 0, none⟩) (by rw [hs2]; show W.heap.size + 1 < _; omega) hn).trans (World.cell?_alloc_at _ _ _ _ hs.symm), (hK.cell (p := ⟨W.heap.size + 1, 1, none⟩) (by rw [hs2]; show W.heap.size + 1 < _; omega) hn).trans (World.cell?_alloc_at _ _ _ _ hs.symm),
    fun i => (hK.frz (p := ⟨W.heap.size + 1, i, none⟩) (by rw [hs2]; show W.heap.size + 1 < _; omega) hn).trans (by rw [← hs]; exact World.frozen?_alloc_new _ _ _ _), ?_, hR, (((Ext.refl W).alloc _).alloc _).keep _ |>.trans hK, by omega, by have := hK.size; omega, Nat.le_refl _, by omega, hbr, hw⟩
  refine RB.keep (S := fun k => k ≠ br) ⟨by rw [hs2]; omega, fun i => ?_, fun i hi => ?_⟩ hK (by omega)
  · exact (hx.frz W.heap.size i (by omega)).trans (World.frozen?_alloc_new _ _ _ _)
  · obtain rfl | rfl : i = 0 ∨ i = 1 := by omega
    all_goals exact ⟨_, (hx.cells W.heap.size _ (by omega)).trans (World.cell?_alloc_at _ _ _ _ rfl)⟩
end Go.Proofs.Ytdiedghaoleblaa
/- Draws of the generator: a constraint is damaged. -/
namespace Go.Proofs.Ytdiedghaoleblaa
open Go.RowKit

theorem IV.nb {S : Nat → Prop} {w : World} {v : Value} {xs : List Int} (h : IV S w v xs) : IV (fun k => S k ∧ k ≠ w.heap.size) w v xs := ⟨h.1, fun g hg => ⟨h.2.1 g hg, by have := h.lt g hg; omega⟩, h.2.2⟩
theorem RowW.lt9 {w : World} {v : Value} {xs : List Int} (h : RowW w v xs) : ∀ g, v.ownBlock = some g → g < w.heap.size := by
  obtain ⟨b, cap, m, f, rfl, -, -, h1, -⟩ := h
  intro g hg
  have hg : some b = some g := hg
  injection hg with hg
  subst hg
  exact h1.lt
theorem RV.nb {S : Nat → Prop} {w : World} {v : Value} {rs : List (List Int)} (h : RV S w v rs) : RV (fun k => S k ∧ k ≠ w.heap.size) w v rs := by
  have hb := h.1.blk9
  obtain ⟨⟨cells, h1, h2, h3⟩, h4⟩ := h
  refine ⟨⟨cells, h1, fun g hg => ⟨h2 g hg, by have := (hb g hg).2; omega⟩, fun i hi => ?_⟩, h4⟩
  obtain ⟨cv, q1, q2, q3⟩ := h3 i hi
  exact ⟨cv, q1, q2, fun g hg => ⟨q3 g hg, by have := q2.lt9 g hg; omega⟩⟩
theorem run_app_none (w : World) (ty : TypeId) (b c : Nat) (A : Option Addr) : (Builtin.append_ #[24, 24] ty #[.slice (some ⟨b, 0, none⟩) 0 0, .slice A 0 c]).run Try.prog w = .ok (.slice (some ⟨b, 0, none⟩) 0 0) w := by
  obtain ⟨i, hi, hz, hsz, hby⟩ := Try.infoIp
  cases A <;> simp [Builtin.append_, run_underlying Try.underlying24, sizeOf, typeInfo, hi, Builtin.lenOf, Builtin.firstCells, loadCells, loadCellsFrom, storeCells]
theorem wpList_app_none (w : World) {ops : Array Oper} {rest : List Oper} {o : Oper} {a : Act} {Q : Exit → Act → World → Prop} (hgd : o.guard = none) (s x : Operand)
    (ho : o.op = .call { callee := .builtin .append, args := #[s, x], argTypes := #[24, 24] }) (b c : Nat) (A : Option Addr) (hs : a.eval s = .slice (some ⟨b, 0, none⟩) 0 0) (hx : a.eval x = .slice A 0 c)
    (h : wpList Try.prog ops Q rest (a.put o.dst (.slice (some ⟨b, 0, none⟩) 0 0)) w) : wpList Try.prog ops Q (o :: rest) a w := by
  refine wpList_plain hgd fun K hK => ?_
  unfold Oper.wp
  simp [execOp, ho, resolve, invoke, builtin, hs, hx, run_app_none, Result.andThen]
  exact hK _ _ h
set_option maxHeartbeats 1000000 in
/-- A copy, of which the range alone is told. -/
theorem copyD_any (S : Nat → Prop) (v : Value) (xs : List Int) (W : World) (h : IV S W v xs) :
    Calls Try.prog 55 #[v] W (fun e W' => ∃ v', e = .returned v' ∧ LR W.heap.size 3 1 W' v' xs.length (-100000) 100000 ∧ Ext W W') := by
  have HV := hide h
  have hl := h.2.2.1
  obtain ⟨A, c, rfl, -⟩ := h.form
  by_cases h0 : xs.length = 0
  · rw [h0] at HV ⊢
    clear h
    go_enter Try.func55, Try.ntmps55
    go_wp2_with (at_builtin; go_must (refine wpList_app_none _ rfl _ _ rfl W.heap.size c A rfl rfl ?_))
    go_ret
    exact ⟨_, rfl, LR.empty 3 1 W _ _, (Ext.refl W).alloc _⟩
  · rcases h.1 with ⟨-, h1⟩ | ⟨g, cap, m, f, hv, h1, h2, h3, h4⟩
    · rw [h1] at h0; exact absurd rfl h0
    injection hv with hv _ hc
    subst hv
    subst hc
    have hcell : ∀ j, j < xs.length * 1 → ∃ x : Int, W.cell? ⟨g, j, none⟩ = some (vI x) ∧ -100000 ≤ x ∧ x ≤ 100000 := fun j hj => ⟨at0 xs j, by rw [h3.cell (by omega), h4 j (by omega)], h.2.2.2 j (by omega)⟩
    have HC := hide hcell
    have hgl := h3.lt
    clear h h3 h4 hcell
    go_enter Try.func55, Try.ntmps55
    go_wp2_with (at_builtin; go_must (refine wpList_appLI _ rfl _ _ rfl W.heap.size _ 0 xs.length (-100000) 100000 g c rfl rfl (LR.empty 3 1 W _ _) (by omega) (fun j hj => by obtain ⟨x, q1, q2⟩ := HC.out j hj; exact ⟨x, (((Ext.refl W).alloc _).cells _ _ hgl).trans q1, q2⟩) (by omega) (by simp) ?_); intro v' W3 hL3 hb3; have HL3 := hide hL3; have HB3 := hide hb3; clear hL3 hb3)
    go_ret
    exact ⟨_, rfl, by have := HL3.out; rwa [Nat.zero_add] at this, ((Ext.refl W).alloc _).below HB3.out⟩
/-- A constraint was damaged. -/
def DGot (w0 : World) (br N : Nat) (Wo W : World) (e : Ending) (W' : World) : Prop :=
  ∃ v c, e = .returned v ∧ (0 < c.vars.length ∧ c.vars.length ≤ 100 ∧ c.args.length ≤ 100) ∧ CV (fun k => Wo.heap.size ≤ k) W' v c ∧ RdSt w0 br N W' ∧ Keep (fun k => k ≠ br) W W'
end Go.Proofs.Ytdiedghaoleblaa
/- Draws of the generator: a model that may be invalid. -/
namespace Go.Proofs.Ytdiedghaoleblaa
open Go.RowKit

/-- The world as it was when it had B blocks. -/
theorem Keep.cut (w : World) {B : Nat} (hB : B ≤ w.heap.size) : ∃ wo : World, wo.heap.size = B ∧ ∀ S, Keep S wo w := by
  refine ⟨{ w with heap := w.heap.extract 0 B }, by simp; omega, fun S => ⟨rfl, rfl, rfl, by simp; omega, fun k hk _ => ?_⟩⟩
  simp at hk
  show w.heap[k]? = (w.heap.extract 0 B)[k]?
  simp [hk]
end Go.Proofs.Ytdiedghaoleblaa
