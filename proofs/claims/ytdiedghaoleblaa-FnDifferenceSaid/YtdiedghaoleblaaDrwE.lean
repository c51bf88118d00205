/- Draws of the generator: a domain; lists of numbers of any make, read behind later draws. -/
import Derived.Test.YtdiedghaoleblaaDrwA
import Derived.Test.YtdiedghaoleblaaFltZ
import Derived.Test.YtdiedghaoleblaaConsA
import Derived.Deep.CutBlock
import Derived.Deep.DeepCutAuto
namespace Go.Proofs.Ytdiedghaoleblaa
open Go.RowKit

/-- Nil, or a slice of the call's own; numbers of a range. -/
def LN (base : Nat) (w : World) (v : Value) (n : Nat) (lo hi : Int) : Prop := (v = .slice none 0 0 ∧ n = 0) ∨ LR base 3 1 w v n lo hi
theorem LN.keep {base : Nat} {w w' : World} {v : Value} {n : Nat} {lo hi : Int} {S : Nat → Prop} (h : LN base w v n lo hi) (hk : Keep S w w') (hS : ∀ k, base ≤ k → S k) : LN base w' v n lo hi := h.imp id (fun h => h.keep hk hS)
theorem LN.ext {base : Nat} {w w' : World} {v : Value} {n : Nat} {lo hi : Int} (h : LN base w v n lo hi) (hx : Ext w w') : LN base w' v n lo hi := h.keep (hx.keep (fun _ => True)) (fun _ _ => trivial)
theorem LN.form {base : Nat} {w : World} {v : Value} {n : Nat} {lo hi : Int} (h : LN base w v n lo hi) : ∃ A c, v = .slice A n c ∧ n ≤ c := by
  rcases h with ⟨rfl, rfl⟩ | h
  · exact ⟨_, _, rfl, Nat.le_refl _⟩
  · obtain ⟨g, cap, rfl, -, -, h⟩ := h.form
    exact ⟨_, _, rfl, h⟩
theorem LN.owns {base : Nat} {w : World} {v : Value} {n : Nat} {lo hi : Int} (h : LN base w v n lo hi) : ∃ xs, w.ownsRow base 3 1 v n xs ∧ (∀ u ∈ xs, ∃ x : Int, u = vI x ∧ lo ≤ x ∧ x ≤ hi) := by
  rcases h with ⟨rfl, rfl⟩ | h
  · exact ⟨[], World.ownsRow_nil _ _ _ _, fun u hu => by cases hu⟩
  · exact h.owns
/-- append of one number. -/
theorem wpList_appLN (w : World) {ops : Array Oper} {rest : List Oper} {o : Oper} {a : Act} {Q : Exit → Act → World → Prop} (hgd : o.guard = none) (s x : Operand)
    (ho : o.op = .call { callee := .builtin .append, args := #[s, x], argTypes := #[24, 24] })
    (base : Nat) (v : Value) (n : Nat) (lo hi y : Int) (b c : Nat) (hs : a.eval s = v) (hx : a.eval x = .slice (some ⟨b, 0, none⟩) 1 c)
    (hown : LN base w v n lo hi) (hc : w.cell? ⟨b, 0, none⟩ = some (.int .i64 y)) (hy : lo ≤ y ∧ y ≤ hi) (hl : n + 1 ≤ 1000000) (hbase : base ≤ w.heap.size)
    (h : ∀ v' w', LR base 3 1 w' v' (n + 1) lo hi → Below base w w' → wpList Try.prog ops Q rest (a.put o.dst v') w') : wpList Try.prog ops Q (o :: rest) a w := by
  obtain ⟨i, hi', hz, hsz, hby⟩ := Try.infoIp
  obtain ⟨xs, h1, h2⟩ := hown.owns
  obtain ⟨v', w', hrun, e2, e3, e4⟩ := run_append_kind (P := Try.prog) w base 24 o.type 3 i _ 8 Try.underlying24 hi' hz hsz hby rfl v n xs h1 b c _ hc rfl (by unfold maxLen; omega) (by omega) hbase
  refine wpList_plain hgd fun K hK => ?_
  unfold Oper.wp
  simp [execOp, ho, resolve, invoke, builtin, hs, hx, hrun, Result.andThen]
  refine hK _ _ (h v' w' (LR.of_owns e2 (by omega) (fun u hu => ?_)) ⟨e3.os, e3.tape, e3.output, e3.size, fun k hk => e3.block k (by omega) (fun e => ?_)⟩)
  · rcases List.mem_append.1 hu with hu | hu
    · exact h2 u hu
    · simp at hu; subst hu; exact ⟨y, rfl, hy.1, hy.2⟩
  · have := (World.ownsRow.lt h1 k e.symm).1
    omega
/-- Numbers in a block that S names, or nil. -/
def IV (S : Nat → Prop) (w : World) (v : Value) (xs : List Int) : Prop :=
  ((v = .slice none 0 0 ∧ xs = []) ∨ RowW w v xs) ∧ (∀ g, v.ownBlock = some g → S g) ∧ xs.length ≤ 100 ∧ ∀ i, i < xs.length → -100000 ≤ at0 xs i ∧ at0 xs i ≤ 100000
theorem IV.nil_ (S : Nat → Prop) (w : World) : IV S w (.slice none 0 0) [] := ⟨.inl ⟨rfl, rfl⟩, (fun g hg => by cases hg), Nat.zero_le _, fun i hi => absurd hi (by simp)⟩
theorem IV.keep {S T : Nat → Prop} {w w' : World} {v : Value} {xs : List Int} (h : IV S w v xs) (hk : Keep T w w') (hS : ∀ k, S k → T k) : IV S w' v xs :=
  ⟨h.1.imp id (fun h1 => h1.keep9 hk (fun g hg => hS g (h.2.1 g hg))), h.2⟩
theorem IV.ext {S : Nat → Prop} {w w' : World} {v : Value} {xs : List Int} (h : IV S w v xs) (hx : Ext w w') : IV S w' v xs := h.keep (hx.keep (fun _ => True)) (fun _ _ => trivial)
theorem IV.mono {S T : Nat → Prop} {w : World} {v : Value} {xs : List Int} (h : IV S w v xs) (hS : ∀ k, S k → T k) : IV T w v xs := ⟨h.1, fun g hg => hS g (h.2.1 g hg), h.2.2⟩
theorem IV.form {S : Nat → Prop} {w : World} {v : Value} {xs : List Int} (h : IV S w v xs) : ∃ A c, v = .slice A xs.length c ∧ xs.length ≤ c := by
  rcases h.1 with ⟨rfl, rfl⟩ | ⟨g, cap, m, f, rfl, h, -⟩
  · exact ⟨_, _, rfl, Nat.le_refl _⟩
  · exact ⟨_, _, rfl, h⟩
theorem IV.ints {S : Nat → Prop} {w : World} {v : Value} {xs : List Int} (h : IV S w v xs) : SInts w v xs := by
  obtain ⟨h1, -, h3, h4⟩ := h
  have hb : ∀ i, i < xs.length → I64 (at0 xs i) := fun i hi => by have := h4 i hi; unfold I64; omega
  rcases h1 with ⟨rfl, rfl⟩ | h1
  · exact ⟨_, _, rfl, Nat.le_refl _, by simp, fun i hi => absurd hi (by simp), fun hp => absurd hp (by simp)⟩
  · exact h1.ints (by omega) hb
theorem LN.iv {base : Nat} {w : World} {v : Value} {n : Nat} {lo hi : Int} (h : LN base w v n lo hi) (hn : n ≤ 100) (h1 : -100000 ≤ lo) (h2 : hi ≤ 100000) : ∃ xs, xs.length = n ∧ IV (fun k => base ≤ k) w v xs ∧ ∀ i, i < n → lo ≤ at0 xs i ∧ at0 xs i ≤ hi := by
  rcases h with ⟨rfl, rfl⟩ | h
  · exact ⟨[], rfl, IV.nil_ _ _, fun i hi => absurd hi (by omega)⟩
  · obtain ⟨xs, e1, e2, e3, e4⟩ := h.rowW
    exact ⟨xs, e1, ⟨.inr e2, e4, by omega, fun i hi => by have := e3 i (by omega); omega⟩, e3⟩
/-- Rows in blocks that S names. -/
def RV (S : Nat → Prop) (w : World) (v : Value) (rs : List (List Int)) : Prop :=
  AppRS S w v rs ∧ rs.length ≤ 100 ∧ ∀ i, i < rs.length → (rw0 rs i).length ≤ 100 ∧ ∀ j, j < (rw0 rs i).length → -100000 ≤ at0 (rw0 rs i) j ∧ at0 (rw0 rs i) j ≤ 100000
theorem RV.nil_ (S : Nat → Prop) (w : World) : RV S w (.slice none 0 0) [] := ⟨AppRS.nil_ _ _, Nat.zero_le _, fun i hi => absurd hi (by simp)⟩
theorem RV.keep {S T : Nat → Prop} {w w' : World} {v : Value} {rs : List (List Int)} (h : RV S w v rs) (hk : Keep T w w') (hS : ∀ k, S k → T k) : RV S w' v rs := ⟨h.1.keep hk hS, h.2⟩
theorem RV.ext {S : Nat → Prop} {w w' : World} {v : Value} {rs : List (List Int)} (h : RV S w v rs) (hx : Ext w w') : RV S w' v rs := ⟨h.1.ext hx, h.2⟩
theorem AppRS.mono9 {S T : Nat → Prop} {w : World} {v : Value} {rs : List (List Int)} (h : AppRS S w v rs) (hS : ∀ k, S k → T k) : AppRS T w v rs := by
  obtain ⟨cells, h1, h2, h3⟩ := h
  exact ⟨cells, h1, fun g hg => hS g (h2 g hg), fun i hi => by obtain ⟨cv, q1, q2, q3⟩ := h3 i hi; exact ⟨cv, q1, q2, fun g hg => hS g (q3 g hg)⟩⟩
theorem RV.mono {S T : Nat → Prop} {w : World} {v : Value} {rs : List (List Int)} (h : RV S w v rs) (hS : ∀ k, S k → T k) : RV T w v rs := ⟨h.1.mono9 hS, h.2⟩
theorem RV.rows {S : Nat → Prop} {w : World} {v : Value} {rs : List (List Int)} (h : RV S w v rs) : SRows w v rs :=
  h.1.rows (by have := h.2.1; omega) (fun i hi => by have := (h.2.2 i hi).1; omega) (fun i hi j hj => by have := (h.2.2 i hi).2 j hj; unfold I64; omega)
end Go.Proofs.Ytdiedghaoleblaa
/- Draws of the generator: a constraint in the making. -/
namespace Go.Proofs.Ytdiedghaoleblaa
open Go.RowKit

/-- v is a constraint whose lists lie in blocks that S names. -/
def CV (S : Nat → Prop) (w : World) (v : Value) (c : Con) : Prop :=
  ∃ vv va vr, v = .agg #[.int .i64 c.kk, vv, va, .int .i64 c.bound, vr] ∧ IV S w vv c.vars ∧ IV S w va c.args ∧ RV S w vr c.rows
theorem CV.keep {S T : Nat → Prop} {w w' : World} {v : Value} {c : Con} (h : CV S w v c) (hk : Keep T w w') (hS : ∀ k, S k → T k) : CV S w' v c := by
  obtain ⟨vv, va, vr, rfl, h1, h2, h3⟩ := h
  exact ⟨vv, va, vr, rfl, h1.keep hk hS, h2.keep hk hS, h3.keep hk hS⟩
theorem CV.mono {S T : Nat → Prop} {w : World} {v : Value} {c : Con} (h : CV S w v c) (hS : ∀ k, S k → T k) : CV T w v c := by
  obtain ⟨vv, va, vr, rfl, h1, h2, h3⟩ := h
  exact ⟨vv, va, vr, rfl, h1.mono hS, h2.mono hS, h3.mono hS⟩
/-- A constraint came. -/
def CGot (w0 : World) (br N : Nat) (W : World) (e : Ending) (W' : World) : Prop :=
  ∃ v c, e = .returned v ∧ (0 < c.vars.length ∧ c.vars.length ≤ 99 ∧ c.args.length ≤ 99) ∧ CV (fun k => W.heap.size ≤ k) W' v c ∧ RdSt w0 br N W' ∧ Keep (fun k => k ≠ br) W W'
/-- A constraint in the making: it lies in block bc. -/
structure CB (w0 : World) (br bc N : Nat) (W wr : World) (c : Con) (vv va vr : Value) : Prop where
  c0 : wr.cell? ⟨bc, 0, none⟩ = some (.int .i64 c.kk)
  c1 : wr.cell? ⟨bc, 1, none⟩ = some vv
  c2 : wr.cell? ⟨bc, 2, none⟩ = some va
  c3 : wr.cell? ⟨bc, 3, none⟩ = some (.int .i64 c.bound)
  c4 : wr.cell? ⟨bc, 4, none⟩ = some vr
  fz : ∀ i, wr.frozen? ⟨bc, i, none⟩ = false
  iv : IV (fun k => W.heap.size ≤ k ∧ k ≠ bc) wr vv c.vars
  ia : IV (fun k => W.heap.size ≤ k ∧ k ≠ bc) wr va c.args
  ir : RV (fun k => W.heap.size ≤ k ∧ k ≠ bc) wr vr c.rows
  nv : 0 < c.vars.length
  b0 : W.heap.size ≤ bc
  b1 : bc < wr.heap.size
  rd : RdSt w0 br N wr
  kp : Keep (fun k => k ≠ br) W wr
  br0 : br < W.heap.size
  w00 : w0.heap.size ≤ W.heap.size
theorem CB.keep {w0 : World} {br bc N M : Nat} {W wr w2 : World} {c : Con} {vv va vr : Value} (h : CB w0 br bc N W wr c vv va vr) (hR : RdSt w0 br M w2) (hK : Keep (fun k => k ≠ br) wr w2) : CB w0 br bc M W w2 c vv va vr := by
  have hb : bc ≠ br := by have := h.b0; have := h.br0; omega
  have hS : ∀ k, (W.heap.size ≤ k ∧ k ≠ bc) → k ≠ br := fun k hk => by have := h.br0; omega
  exact ⟨(hK.cell (p := ⟨bc, 0, none⟩) h.b1 hb).trans h.c0, (hK.cell (p := ⟨bc, 1, none⟩) h.b1 hb).trans h.c1, (hK.cell (p := ⟨bc, 2, none⟩) h.b1 hb).trans h.c2, (hK.cell (p := ⟨bc, 3, none⟩) h.b1 hb).trans h.c3,
    (hK.cell (p := ⟨bc, 4, none⟩) h.b1 hb).trans h.c4, fun i => (hK.frz (p := ⟨bc, i, none⟩) h.b1 hb).trans (h.fz i), h.iv.keep hK hS, h.ia.keep hK hS, h.ir.keep hK hS, h.nv, h.b0, Nat.lt_of_lt_of_le h.b1 hK.size, hR, h.kp.trans hK, h.br0, h.w00⟩
theorem CB.grow {w0 : World} {br bc N : Nat} {W wr w2 : World} {c : Con} {vv va vr : Value} (h : CB w0 br bc N W wr c vv va vr) (hx : Ext wr w2) : CB w0 br bc N W w2 c vv va vr := h.keep (h.rd.grow hx) (hx.keep _)
/-- A field is set. -/
theorem CB.set {w0 : World} {br bc N i : Nat} {W wr : World} {c c' : Con} {vv va vr vv' va' vr' u : Value} (h : CB w0 br bc N W wr c vv va vr)
    (h0 : (wr.setCell ⟨bc, i, none⟩ u).cell? ⟨bc, 0, none⟩ = some (.int .i64 c'.kk)) (h1 : (wr.setCell ⟨bc, i, none⟩ u).cell? ⟨bc, 1, none⟩ = some vv') (h2 : (wr.setCell ⟨bc, i, none⟩ u).cell? ⟨bc, 2, none⟩ = some va')
    (h3 : (wr.setCell ⟨bc, i, none⟩ u).cell? ⟨bc, 3, none⟩ = some (.int .i64 c'.bound)) (h4 : (wr.setCell ⟨bc, i, none⟩ u).cell? ⟨bc, 4, none⟩ = some vr')
    (k1 : IV (fun k => W.heap.size ≤ k ∧ k ≠ bc) wr vv' c'.vars) (k2 : IV (fun k => W.heap.size ≤ k ∧ k ≠ bc) wr va' c'.args) (k3 : RV (fun k => W.heap.size ≤ k ∧ k ≠ bc) wr vr' c'.rows) (k4 : 0 < c'.vars.length) :
    CB w0 br bc N W (wr.setCell ⟨bc, i, none⟩ u) c' vv' va' vr' := by
  have hK : Keep (fun k => k ≠ bc) wr (wr.setCell ⟨bc, i, none⟩ u) := (Keep.refl _ wr).set (p := ⟨bc, i, none⟩) (fun _ hh => hh rfl) u
  exact ⟨h0, h1, h2, h3, h4, fun j => (World.frozen?_setCell ..).trans (h.fz j), k1.keep hK (fun k hk => hk.2), k2.keep hK (fun k hk => hk.2), k3.keep hK (fun k hk => hk.2), k4, h.b0, by simpa [World.setCell] using h.b1,
    h.rd.keep hK (by have := h.b0; have := h.br0; omega) (fun k hk => by have := h.b0; have := h.w00; omega), h.kp.trans9 hK (fun k hk _ => by have := h.b0; omega), h.br0, h.w00⟩
theorem CB.set0 {w0 : World} {br bc N : Nat} {W wr : World} {c : Con} {vv va vr : Value} (h : CB w0 br bc N W wr c vv va vr) (k : Int) : CB w0 br bc N W (wr.setCell ⟨bc, 0, none⟩ (.int .i64 k)) { c with kk := k } vv va vr :=
  h.set (World.cell?_setCell_same' _ _ _ (by rw [h.c0]; rfl)) ((World.cell?_setCell_other _ _ _ _ (by simp)).trans h.c1) ((World.cell?_setCell_other _ _ _ _ (by simp)).trans h.c2) ((World.cell?_setCell_other _ _ _ _ (by simp)).trans h.c3) ((World.cell?_setCell_other _ _ _ _ (by simp)).trans h.c4) h.iv h.ia h.ir h.nv
theorem CB.set1 {w0 : World} {br bc N : Nat} {W wr : World} {c : Con} {vv va vr u : Value} {xs : List Int} (h : CB w0 br bc N W wr c vv va vr) (hu : IV (fun k => W.heap.size ≤ k ∧ k ≠ bc) wr u xs) (hl : 0 < xs.length) : CB w0 br bc N W (wr.setCell ⟨bc, 1, none⟩ u) { c with vars := xs } u va vr :=
  h.set ((World.cell?_setCell_other _ _ _ _ (by simp)).trans h.c0) (World.cell?_setCell_same' _ _ _ (by rw [h.c1]; rfl)) ((World.cell?_setCell_other _ _ _ _ (by simp)).trans h.c2) ((World.cell?_setCell_other _ _ _ _ (by simp)).trans h.c3) ((World.cell?_setCell_other _ _ _ _ (by simp)).trans h.c4) hu h.ia h.ir hl
theorem CB.set2 {w0 : World} {br bc N : Nat} {W wr : World} {c : Con} {vv va vr u : Value} {xs : List Int} (h : CB w0 br bc N W wr c vv va vr) (hu : IV (fun k => W.heap.size ≤ k ∧ k ≠ bc) wr u xs) : CB w0 br bc N W (wr.setCell ⟨bc, 2, none⟩ u) { c with args := xs } vv u vr :=
  h.set ((World.cell?_setCell_other _ _ _ _ (by simp)).trans h.c0) ((World.cell?_setCell_other _ _ _ _ (by simp)).trans h.c1) (World.cell?_setCell_same' _ _ _ (by rw [h.c2]; rfl)) ((World.cell?_setCell_other _ _ _ _ (by simp)).trans h.c3) ((World.cell?_setCell_other _ _ _ _ (by simp)).trans h.c4) h.iv hu h.ir h.nv
theorem CB.set3 {w0 : World} {br bc N : Nat} {W wr : World} {c : Con} {vv va vr : Value} (h : CB w0 br bc N W wr c vv va vr) (k : Int) : CB w0 br bc N W (wr.setCell ⟨bc, 3, none⟩ (.int .i64 k)) { c with bound := k } vv va vr :=
  h.set ((World.cell?_setCell_other _ _ _ _ (by simp)).trans h.c0) ((World.cell?_setCell_other _ _ _ _ (by simp)).trans h.c1) ((World.cell?_setCell_other _ _ _ _ (by simp)).trans h.c2) (World.cell?_setCell_same' _ _ _ (by rw [h.c3]; rfl)) ((World.cell?_setCell_other _ _ _ _ (by simp)).trans h.c4) h.iv h.ia h.ir h.nv
theorem CB.set4 {w0 : World} {br bc N : Nat} {W wr : World} {c : Con} {vv va vr u : Value} {rs : List (List Int)} (h : CB w0 br bc N W wr c vv va vr) (hu : RV (fun k => W.heap.size ≤ k ∧ k ≠ bc) wr u rs) : CB w0 br bc N W (wr.setCell ⟨bc, 4, none⟩ u) { c with rows := rs } vv va u :=
  h.set ((World.cell?_setCell_other _ _ _ _ (by simp)).trans h.c0) ((World.cell?_setCell_other _ _ _ _ (by simp)).trans h.c1) ((World.cell?_setCell_other _ _ _ _ (by simp)).trans h.c2) ((World.cell?_setCell_other _ _ _ _ (by simp)).trans h.c3) (World.cell?_setCell_same' _ _ _ (by rw [h.c4]; rfl)) h.iv h.ia hu h.nv
theorem CB.start {w0 : World} {br N : Nat} {W w3 : World} {vv : Value} {xs : List Int} (K : Int) (t : TypeId) (hv : IV (fun k => W.heap.size ≤ k) w3 vv xs) (hvb : ∀ g, vv.ownBlock = some g → g < w3.heap.size) (hl : 0 < xs.length) (hb : W.heap.size ≤ w3.heap.size) (hR : RdSt w0 br N w3) (hK : Keep (fun k => k ≠ br) W w3) (hbr : br < W.heap.size) (hw : w0.heap.size ≤ W.heap.size) :
    CB w0 br w3.heap.size N W (w3.alloc (.cells #[.int .i64 K, vv, .slice none 0 0, .int .i64 0, .slice none 0 0] t)) ⟨K, xs, [], 0, []⟩ vv (.slice none 0 0) (.slice none 0 0) := by
  have hx : Ext w3 (w3.alloc (.cells #[.int .i64 K, vv, .slice none 0 0, .int .i64 0, .slice none 0 0] t)) := (Ext.refl w3).alloc _
  exact ⟨World.cell?_alloc_at _ _ _ _ rfl, World.cell?_alloc_at _ _ _ _ rfl, World.cell?_alloc_at _ _ _ _ rfl, World.cell?_alloc_at _ _ _ _ rfl, World.cell?_alloc_at _ _ _ _ rfl, fun i => World.frozen?_alloc_new _ _ _ _,
    ⟨(hv.ext hx).1, fun g hg => ⟨hv.2.1 g hg, by have := hvb g hg; omega⟩, hv.2.2⟩, IV.nil_ _ _, RV.nil_ _ _, hl, hb, by simp, hR.grow hx, hK.trans (hx.keep _), hbr, hw⟩
/-- A block of n cells that may be written. -/
def RB (rb n : Nat) (w : World) : Prop := rb < w.heap.size ∧ (∀ i, w.frozen? ⟨rb, i, none⟩ = false) ∧ ∀ i, i < n → ∃ u, w.cell? ⟨rb, i, none⟩ = some u
theorem RB.keep {rb n : Nat} {S : Nat → Prop} {w w' : World} (h : RB rb n w) (hk : Keep S w w') (hS : S rb) : RB rb n w' :=
  ⟨Nat.lt_of_lt_of_le h.1 hk.size, fun i => (hk.frz (p := ⟨rb, i, none⟩) h.1 hS).trans (h.2.1 i), fun i hi => by obtain ⟨u, hu⟩ := h.2.2 i hi; exact ⟨u, (hk.cell (p := ⟨rb, i, none⟩) h.1 hS).trans hu⟩⟩
theorem RB.five {rb : Nat} {w : World} (h : RB rb 5 w) : rb < w.heap.size ∧ ∃ u0 u1 u2 u3 u4, w.cell? ⟨rb, 0, none⟩ = some u0 ∧ w.cell? ⟨rb, 1, none⟩ = some u1 ∧ w.cell? ⟨rb, 2, none⟩ = some u2 ∧ w.cell? ⟨rb, 3, none⟩ = some u3 ∧ w.cell? ⟨rb, 4, none⟩ = some u4 ∧
    w.frozen? ⟨rb, 0, none⟩ = false ∧ w.frozen? ⟨rb, 1, none⟩ = false ∧ w.frozen? ⟨rb, 2, none⟩ = false ∧ w.frozen? ⟨rb, 3, none⟩ = false ∧ w.frozen? ⟨rb, 4, none⟩ = false := by
  obtain ⟨h1, h2, h3⟩ := h
  obtain ⟨u0, a0⟩ := h3 0 (by omega)
  obtain ⟨u1, a1⟩ := h3 1 (by omega)
  obtain ⟨u2, a2⟩ := h3 2 (by omega)
  obtain ⟨u3, a3⟩ := h3 3 (by omega)
  obtain ⟨u4, a4⟩ := h3 4 (by omega)
  exact ⟨h1, u0, u1, u2, u3, u4, a0, a1, a2, a3, a4, h2 _, h2 _, h2 _, h2 _, h2 _⟩
/-- The constraint is copied into the block of the result. -/
theorem CB.done {w0 : World} {br bc N M rb : Nat} {W Wb wr w' : World} {c : Con} {vv va vr : Value} (h : CB w0 br bc N Wb wr c vv va vr) (hx : Ext W Wb) (hs : Wb.heap.size = W.heap.size + 1) (hr : rb = W.heap.size) (hk : Keep (fun k => k ≠ rb) wr w') (hbr : br < W.heap.size) (hw : w0.heap.size ≤ W.heap.size) (hN : N ≤ M) (hl : c.vars.length ≤ 99 ∧ c.args.length ≤ 99) :
    CGot w0 br M W (.returned (.agg #[.int .i64 c.kk, vv, va, .int .i64 c.bound, vr])) w' := by
  subst hr
  have hS : ∀ k, Wb.heap.size ≤ k ∧ k ≠ bc → k ≠ W.heap.size := fun k hk => by omega
  have hS2 : ∀ k, Wb.heap.size ≤ k ∧ k ≠ bc → W.heap.size ≤ k := fun k hk => by omega
  exact ⟨_, c, rfl, ⟨h.nv, hl⟩, ⟨vv, va, vr, rfl, (h.iv.keep hk hS).mono hS2, (h.ia.keep hk hS).mono hS2, (h.ir.keep hk hS).mono hS2⟩, (h.rd.keep hk (by omega) (fun k hk => by omega)).mono hN,
    ((hx.keep _).trans h.kp).trans9 hk (fun k hk _ => by omega)⟩
theorem IV.one (S : Nat → Prop) (w : World) (x : Int) (hS : S w.heap.size) (hx : -100000 ≤ x ∧ x ≤ 100000) : IV S (w.alloc (.cells #[.int .i64 x] 3)) (.slice (some ⟨w.heap.size, 0, none⟩) 1 1) [x] := by
  refine ⟨.inr ⟨w.heap.size, 1, 1, fun _ => vI x, rfl, Nat.le_refl _, Nat.le_refl _, ⟨#[.int .i64 x], World.alloc_heap_new w _, rfl, fun i hi => ?_⟩, fun i hi => ?_⟩, (fun g hg => ?_), by simp, fun i hi => ?_⟩
  · obtain rfl : i = 0 := by omega
    rfl
  · obtain rfl : i = 0 := by simpa using hi
    rfl
  · have hg : some w.heap.size = some g := hg
    injection hg with hg
    subst hg
    exact hS
  · obtain rfl : i = 0 := by simpa using hi
    exact hx
end Go.Proofs.Ytdiedghaoleblaa
/- Draws of the generator: a constraint. -/
namespace Go.Proofs.Ytdiedghaoleblaa
open Go.RowKit

theorem newL12 (w : World) (t : TypeId) (xs : List Int) {lo hi : Int} (h : ∀ x ∈ xs, lo ≤ x ∧ x ≤ hi) : ∀ j, j < xs.length → ∃ x : Int, (w.alloc (.cells (xs.map vI).toArray t)).cell? ⟨w.heap.size, j, none⟩ = some (vI x) ∧ lo ≤ x ∧ x ≤ hi := by
  intro j hj
  refine ⟨xs[j], (World.cell?_alloc_at _ _ _ _ rfl).trans ?_, h _ (List.getElem_mem hj)⟩
  simp [hj]
theorem Below.keep12 {B : Nat} {w w' : World} (h : Below B w w') : Keep (fun k => k < B) w w' := ⟨h.os, h.tape, h.output, h.size, fun k _ hs => h.block k hs⟩
theorem IV.lt {S : Nat → Prop} {w : World} {v : Value} {xs : List Int} (h : IV S w v xs) : ∀ g, v.ownBlock = some g → g < w.heap.size := by
  intro g hg
  rcases h.1 with ⟨rfl, -⟩ | ⟨b, cap, m, f, rfl, -, -, h1, -⟩
  · cases hg
  · have hg : some b = some g := hg
    injection hg with hg
    subst hg
    exact h1.lt
theorem RV.snoc {S : Nat → Prop} {w w' : World} {v v' : Value} {rs : List (List Int)} {xs : List Int} (h : RV S w v rs) (ha : AppRS S w' v' (rs ++ [xs])) (hl : rs.length < 100) (hx : xs.length ≤ 100) (hb : ∀ j, j < xs.length → -100000 ≤ at0 xs j ∧ at0 xs j ≤ 100000) : RV S w' v' (rs ++ [xs]) := by
  refine ⟨ha, by simp; omega, fun i hi => ?_⟩
  by_cases hlt : i < rs.length
  · rw [show rw0 (rs ++ [xs]) i = rw0 rs i by simp [rw0, List.getElem?_append_left hlt]]
    exact h.2.2 i hlt
  · obtain rfl : i = rs.length := by simp at hi; omega
    rw [show rw0 (rs ++ [xs]) rs.length = xs by simp [rw0]]
    exact ⟨hx, hb⟩
/-- A constraint in the making, the block of the result beside it. -/
structure CR (w0 : World) (br rb bc N : Nat) (W wr : World) (c : Con) (vv va vr : Value) : Prop where
  b : CB w0 br bc N W wr c vv va vr
  r : RB rb 5 wr
  r1 : rb ≠ br
  r2 : rb < W.heap.size
theorem CR.ne {w0 : World} {br rb bc N : Nat} {W wr : World} {c : Con} {vv va vr : Value} (h : CR w0 br rb bc N W wr c vv va vr) : rb ≠ bc := by
  have := h.r2; have := h.b.b0; omega
theorem CR.keep {w0 : World} {br rb bc N M : Nat} {W wr w2 : World} {c : Con} {vv va vr : Value} (h : CR w0 br rb bc N W wr c vv va vr) (hR : RdSt w0 br M w2) (hK : Keep (fun k => k ≠ br) wr w2) : CR w0 br rb bc M W w2 c vv va vr :=
  ⟨h.b.keep hR hK, h.r.keep hK h.r1, h.r1, h.r2⟩
theorem CR.mono {w0 : World} {br rb bc N M : Nat} {W wr : World} {c : Con} {vv va vr : Value} (h : CR w0 br rb bc N W wr c vv va vr) (hN : N ≤ M) : CR w0 br rb bc M W wr c vv va vr := h.keep (h.b.rd.mono hN) (Keep.refl _ _)
theorem CR.grow {w0 : World} {br rb bc N : Nat} {W wr w2 : World} {c : Con} {vv va vr : Value} (h : CR w0 br rb bc N W wr c vv va vr) (hx : Ext wr w2) : CR w0 br rb bc N W w2 c vv va vr := h.keep (h.b.rd.grow hx) (hx.keep _)
theorem CR.rset {w0 : World} {br rb bc N : Nat} {W wr : World} {c : Con} {vv va vr : Value} (h : CR w0 br rb bc N W wr c vv va vr) (i : Nat) (u : Value) : RB rb 5 (wr.setCell ⟨bc, i, none⟩ u) :=
  h.r.keep ((Keep.refl (fun k => k ≠ bc) wr).set (p := ⟨bc, i, none⟩) (fun _ hh => hh rfl) u) h.ne
theorem CR.set0 {w0 : World} {br rb bc N : Nat} {W wr : World} {c : Con} {vv va vr : Value} (h : CR w0 br rb bc N W wr c vv va vr) (k : Int) : CR w0 br rb bc N W (wr.setCell ⟨bc, 0, none⟩ (.int .i64 k)) { c with kk := k } vv va vr := ⟨h.b.set0 k, h.rset _ _, h.r1, h.r2⟩
theorem CR.set1 {w0 : World} {br rb bc N : Nat} {W wr : World} {c : Con} {vv va vr u : Value} {xs : List Int} (h : CR w0 br rb bc N W wr c vv va vr) (hu : IV (fun k => W.heap.size ≤ k ∧ k ≠ bc) wr u xs) (hl : 0 < xs.length) : CR w0 br rb bc N W (wr.setCell ⟨bc, 1, none⟩ u) { c with vars := xs } u va vr := ⟨h.b.set1 hu hl, h.rset _ _, h.r1, h.r2⟩
theorem CR.set2 {w0 : World} {br rb bc N : Nat} {W wr : World} {c : Con} {vv va vr u : Value} {xs : List Int} (h : CR w0 br rb bc N W wr c vv va vr) (hu : IV (fun k => W.heap.size ≤ k ∧ k ≠ bc) wr u xs) : CR w0 br rb bc N W (wr.setCell ⟨bc, 2, none⟩ u) { c with args := xs } vv u vr := ⟨h.b.set2 hu, h.rset _ _, h.r1, h.r2⟩
theorem CR.set3 {w0 : World} {br rb bc N : Nat} {W wr : World} {c : Con} {vv va vr : Value} (h : CR w0 br rb bc N W wr c vv va vr) (k : Int) : CR w0 br rb bc N W (wr.setCell ⟨bc, 3, none⟩ (.int .i64 k)) { c with bound := k } vv va vr := ⟨h.b.set3 k, h.rset _ _, h.r1, h.r2⟩
theorem CR.set4 {w0 : World} {br rb bc N : Nat} {W wr : World} {c : Con} {vv va vr u : Value} {rs : List (List Int)} (h : CR w0 br rb bc N W wr c vv va vr) (hu : RV (fun k => W.heap.size ≤ k ∧ k ≠ bc) wr u rs) : CR w0 br rb bc N W (wr.setCell ⟨bc, 4, none⟩ u) { c with rows := rs } vv va u := ⟨h.b.set4 hu, h.rset _ _, h.r1, h.r2⟩
/-- A list of one number is made and set as the arguments. -/
theorem CR.one2 {w0 : World} {br rb bc N : Nat} {W wr : World} {c : Con} {vv va vr : Value} (h : CR w0 br rb bc N W wr c vv va vr) (z : Int) (hz : -100000 ≤ z ∧ z ≤ 100000) :
    CR w0 br rb bc N W ((wr.setCell ⟨bc, 2, none⟩ (.slice (some ⟨wr.heap.size, 0, none⟩) 1 1)).alloc (.cells #[.int .i64 z] 3)) { c with args := [z] } vv (.slice (some ⟨wr.heap.size, 0, none⟩) 1 1) vr := by
  have hb0 := h.b.b0
  have hb1 := h.b.b1
  have h1 := (h.grow ((Ext.refl wr).alloc (.cells #[.int .i64 z] 3))).set2 (IV.one _ wr z ⟨by omega, by omega⟩ hz)
  rw [World.setCell_alloc_past _ _ _ _ h.b.b1] at h1
  exact h1
/-- The arguments were appended to, in blocks from base on. -/
theorem CR.far2 {w0 : World} {br rb bc N base : Nat} {W wr w1 : World} {c : Con} {vv va : Value} (h : CR w0 br rb bc N W wr c vv va (.slice none 0 0)) (hk : Keep (fun k => k < base) wr w1) (hb : bc < base) (hvb : ∀ g, vv.ownBlock = some g → g < base) (hr : c.rows = [])
    {u : Value} {ys : List Int} (hu : IV (fun k => base ≤ k) w1 u ys) : CR w0 br rb bc N W (w1.setCell ⟨bc, 2, none⟩ u) { c with args := ys } vv u (.slice none 0 0) := by
  have b0 := h.b.b0
  have b1 := h.b.b1
  have hbr := h.b.br0
  have hw0 := h.b.w00
  have hr2 := h.r2
  have hs := hk.size
  have hk2 : Keep (fun k => k < base ∧ k ≠ bc) wr (w1.setCell ⟨bc, 2, none⟩ u) := (hk.mono (fun k _ hh => hh.1)).set (p := ⟨bc, 2, none⟩) (fun _ hh => hh.2 rfl) u
  refine ⟨⟨(World.cell?_setCell_other _ _ _ _ (by simp)).trans ((hk.cell (p := ⟨bc, 0, none⟩) b1 hb).trans h.b.c0), (World.cell?_setCell_other _ _ _ _ (by simp)).trans ((hk.cell (p := ⟨bc, 1, none⟩) b1 hb).trans h.b.c1),
    World.cell?_setCell_same' _ _ _ (by rw [(hk.cell (p := ⟨bc, 2, none⟩) b1 hb).trans h.b.c2]; rfl), (World.cell?_setCell_other _ _ _ _ (by simp)).trans ((hk.cell (p := ⟨bc, 3, none⟩) b1 hb).trans h.b.c3),
    (World.cell?_setCell_other _ _ _ _ (by simp)).trans ((hk.cell (p := ⟨bc, 4, none⟩) b1 hb).trans h.b.c4), fun i => (World.frozen?_setCell ..).trans ((hk.frz (p := ⟨bc, i, none⟩) b1 hb).trans (h.b.fz i)),
    ⟨h.b.iv.1.imp id (fun h1 => h1.keep9 hk2 (fun g hg => ⟨hvb g hg, (h.b.iv.2.1 g hg).2⟩)), h.b.iv.2⟩,
    (hu.keep (T := fun k => k ≠ bc) ((Keep.refl _ _).set (p := ⟨bc, 2, none⟩) (fun _ hh => hh rfl) u) (fun k hk => by omega)).mono (fun k hk => ⟨by omega, by omega⟩), ?_, h.b.nv, b0, by simp [World.setCell]; omega,
    h.b.rd.keep hk2 ⟨by omega, by omega⟩ (fun k hk => ⟨by omega, by omega⟩), h.b.kp.trans9 hk2 (fun k hk _ => ⟨by omega, by omega⟩), hbr, hw0⟩, h.r.keep hk2 ⟨by omega, h.ne⟩, h.r1, h.r2⟩
  show RV _ _ _ c.rows
  rw [hr]
  exact RV.nil_ _ _
/-- The rows were appended to, in blocks from base on. -/
theorem CR.far4 {w0 : World} {br rb bc N base : Nat} {W wr w1 : World} {c : Con} {vv vr : Value} (h : CR w0 br rb bc N W wr c vv (.slice none 0 0) vr) (hk : Keep (fun k => k < base) wr w1) (hb : bc < base) (hvb : ∀ g, vv.ownBlock = some g → g < base) (hr : c.args = [])
    {u : Value} {rs : List (List Int)} (hu : RV (fun k => base ≤ k) w1 u rs) : CR w0 br rb bc N W (w1.setCell ⟨bc, 4, none⟩ u) { c with rows := rs } vv (.slice none 0 0) u := by
  have b0 := h.b.b0
  have b1 := h.b.b1
  have hbr := h.b.br0
  have hw0 := h.b.w00
  have hr2 := h.r2
  have hs := hk.size
  have hk2 : Keep (fun k => k < base ∧ k ≠ bc) wr (w1.setCell ⟨bc, 4, none⟩ u) := (hk.mono (fun k _ hh => hh.1)).set (p := ⟨bc, 4, none⟩) (fun _ hh => hh.2 rfl) u
  refine ⟨⟨(World.cell?_setCell_other _ _ _ _ (by simp)).trans ((hk.cell (p := ⟨bc, 0, none⟩) b1 hb).trans h.b.c0), (World.cell?_setCell_other _ _ _ _ (by simp)).trans ((hk.cell (p := ⟨bc, 1, none⟩) b1 hb).trans h.b.c1),
    (World.cell?_setCell_other _ _ _ _ (by simp)).trans ((hk.cell (p := ⟨bc, 2, none⟩) b1 hb).trans h.b.c2), (World.cell?_setCell_other _ _ _ _ (by simp)).trans ((hk.cell (p := ⟨bc, 3, none⟩) b1 hb).trans h.b.c3),
    World.cell?_setCell_same' _ _ _ (by rw [(hk.cell (p := ⟨bc, 4, none⟩) b1 hb).trans h.b.c4]; rfl), fun i => (World.frozen?_setCell ..).trans ((hk.frz (p := ⟨bc, i, none⟩) b1 hb).trans (h.b.fz i)),
    ⟨h.b.iv.1.imp id (fun h1 => h1.keep9 hk2 (fun g hg => ⟨hvb g hg, (h.b.iv.2.1 g hg).2⟩)), h.b.iv.2⟩, ?_,
    (hu.keep (T := fun k => k ≠ bc) ((Keep.refl _ _).set (p := ⟨bc, 4, none⟩) (fun _ hh => hh rfl) u) (fun k hk => by omega)).mono (fun k hk => ⟨by omega, by omega⟩), h.b.nv, b0, by simp [World.setCell]; omega,
    h.b.rd.keep hk2 ⟨by omega, by omega⟩ (fun k hk => ⟨by omega, by omega⟩), h.b.kp.trans9 hk2 (fun k hk _ => ⟨by omega, by omega⟩), hbr, hw0⟩, h.r.keep hk2 ⟨by omega, h.ne⟩, h.r1, h.r2⟩
  show IV _ _ _ c.args
  rw [hr]
  exact IV.nil_ _ _
/-- The constraint has its kind and its variables. -/
def CS (w0 : World) (br rb bc N : Nat) (Wb wx : World) (K : Int) : Prop :=
  ∃ xs vv, xs.length ≤ 4 ∧ CR w0 br rb bc N Wb wx ⟨K, xs, [], 0, []⟩ vv (.slice none 0 0) (.slice none 0 0)
/-- The constraint is done. -/
def CE (w0 : World) (br rb bc N : Nat) (Wb wx : World) : Prop :=
  ∃ c vv va vr, CR w0 br rb bc N Wb wx c vv va vr ∧ c.vars.length ≤ 99 ∧ c.args.length ≤ 99

end Go.Proofs.Ytdiedghaoleblaa
