/- Draws of the generator: a domain; lists of numbers of any make, read behind later draws. -/
import Derived.Test.YtalgilgfoekioaaGreatDoorDrwA
import Derived.Test.YtalgilgfoekioaaGreatDoorFltZ
import Derived.Test.YtalgilgfoekioaaGreatDoorConsA
import Derived.Deep.CutBlock
import Derived.Deep.DeepCutAuto
namespace Go.Proofs.YtalgilgfoekioaaGreatDoor
open Go.RowKit

set_option maxRecDepth 100000 in
set_option maxHeartbeats 4000000 in
theorem randomDomain_any (w0 : World) (br N : Nat) (W : World) (hN : N ≤ 80000) (hR : RdSt w0 br N W) :
    Calls Tryz.prog 78 #[.pointer (some ⟨br, 0, none⟩)] W (Drawn w0 br (N + 3) 0 63 W) := by
  have HR := hide hR
  clear hR
  go_enter Tryz.func78, Tryz.ntmps78
  go_wp2_with fail
  refine (pick_any w0 br N 4 _ (by omega) (by omega) (by omega) HR.out).mono ?_
  rintro e W1 ⟨y, y0, y1, rfl, hR1, hK1⟩
  have HR1 := hide hR1
  have HK1 := hide hK1
  clear hR1 hK1
  obtain rfl | rfl | rfl | rfl : y = 0 ∨ y = 1 ∨ y = 2 ∨ y = 3 := by omega
  · go_wp2_with fail
    go_ret
    exact ⟨63, by omega, by omega, rfl, HR1.out.mono (by omega), HK1.out⟩
  · go_wp2_with fail
    refine (pick_any w0 br (N + 1) 3 _ (by omega) (by omega) (by omega) HR1.out).mono ?_
    rintro e W2 ⟨z, z0, z1, rfl, hR2, hK2⟩
    have HR2 := hide hR2
    have HK2 := hide (HK1.out.trans hK2)
    clear hR2 hK2
    go_wp2_with fail
    refine (pick_any w0 br (N + 2) 4 _ (by omega) (by omega) (by omega) HR2.out).mono ?_
    rintro e W3 ⟨u, u0, u1, rfl, hR3, hK3⟩
    have HR3 := hide hR3
    have HK3 := hide (HK2.out.trans hK3)
    clear hR3 hK3
    have h2u : IntKind.i64.wrap (2 + u) = 2 + u := IntWalk.i64_in _ (by omega)
    go_wp2_with fail
    refine (DomainRangeS_any _ _ _).mono ?_
    rintro e W4 ⟨d, d0, d1, rfl, rfl⟩
    go_wp2_with fail
    go_ret
    exact ⟨d, d0, d1, rfl, HR3.out, HK3.out⟩
  · go_wp2_with fail
    refine (pick_any w0 br (N + 1) 6 _ (by omega) (by omega) (by omega) HR1.out).mono ?_
    rintro e W2 ⟨z, z0, z1, rfl, hR2, hK2⟩
    have HR2 := hide (hR2.mono (M := N + 3) (by omega))
    have HK2 := hide (HK1.out.trans hK2)
    clear hR2 hK2
    obtain rfl | rfl | rfl | rfl | rfl | rfl : z = 0 ∨ z = 1 ∨ z = 2 ∨ z = 3 ∨ z = 4 ∨ z = 5 := by omega
    all_goals
      go_wp2_with fail
      go_ret
      exact ⟨_, by decide, by decide, rfl, HR2.out, HK2.out⟩
  · go_wp2_with fail
    refine (pick_any w0 br (N + 1) 63 _ (by omega) (by omega) (by omega) HR1.out).mono ?_
    rintro e W2 ⟨z, z0, z1, rfl, hR2, hK2⟩
    have HR2 := hide (hR2.mono (M := N + 3) (by omega))
    have HK2 := hide (HK1.out.trans hK2)
    clear hR2 hK2
    have h2u : IntKind.i64.wrap (1 + z) = 1 + z := IntWalk.i64_in _ (by omega)
    go_wp2_with fail
    go_ret
    exact ⟨1 + z, by omega, by omega, rfl, HR2.out, HK2.out⟩
/-- Nil, or a slice of the call's own; numbers of a range. -/
def LN (base : Nat) (w : World) (v : Value) (n : Nat) (lo hi : Int) : Prop := (v = .slice none 0 0 ∧ n = 0) ∨ LR base 3 1 w v n lo hi
theorem LN.keep {base : Nat} {w w' : World} {v : Value} {n : Nat} {lo hi : Int} {S : Nat → Prop} (h : LN base w v n lo hi) (hk : Keep S w w') (hS : ∀ k, base ≤ k → S k) : LN base w' v n lo hi := h.imp id (fun h => h.keep hk hS)
theorem LN.ext {base : Nat} {w w' : World} {v : Value} {n : Nat} {lo hi : Int} (h : LN base w v n lo hi) (hx : Ext w w') : LN base w' v n lo hi := h.keep (hx.keep (fun _ => True)) (fun _ _ => trivial)
theorem LN.form {base : Nat} {w : World} {v : Value} {n : Nat} {lo hi : Int} (h : LN base w v n lo hi) : ∃ A c, v = .slice A n c ∧ n ≤ c := by
  rcases h with ⟨rfl, rfl⟩ | h
  · exact ⟨_, _, rfl, Nat.le_refl _⟩
  · obtain ⟨g, cap, rfl, -, -, h⟩ := h.form
    exact ⟨_, _, rfl, h⟩
theorem LN.owns {base : Nat} {w : World} {v : Value} {n : Nat} {lo hi : Int} (h : LN base w v n lo hi) : ∃ xs, w.ownsRow base 3 1 v n xs ∧ (∀ u ∈ xs, ∃ x : Int, u = vI x ∧ lo ≤ x ∧ x ≤ hi) := by
  rcases h with ⟨rfl, rfl⟩ | h
  · exact ⟨[], World.ownsRow_nil _ _ _ _, fun u hu => by cases hu⟩
  · exact h.owns
/-- append of one number. -/
theorem wpList_appLN (w : World) {ops : Array Oper} {rest : List Oper} {o : Oper} {a : Act} {Q : Exit → Act → World → Prop} (hgd : o.guard = none) (s x : Operand)
    (ho : o.op = .call { callee := .builtin .append, args := #[s, x], argTypes := #[23, 23] })
    (base : Nat) (v : Value) (n : Nat) (lo hi y : Int) (b c : Nat) (hs : a.eval s = v) (hx : a.eval x = .slice (some ⟨b, 0, none⟩) 1 c)
    (hown : LN base w v n lo hi) (hc : w.cell? ⟨b, 0, none⟩ = some (.int .i64 y)) (hy : lo ≤ y ∧ y ≤ hi) (hl : n + 1 ≤ 1000000) (hbase : base ≤ w.heap.size)
    (h : ∀ v' w', LR base 3 1 w' v' (n + 1) lo hi → Below base w w' → wpList Tryz.prog ops Q rest (a.put o.dst v') w') : wpList Tryz.prog ops Q (o :: rest) a w := by
  obtain ⟨i, hi', hz, hsz, hby⟩ := Tryz.infoIp
  obtain ⟨xs, h1, h2⟩ := hown.owns
  obtain ⟨v', w', hrun, e2, e3, e4⟩ := run_append_kind (P := Tryz.prog) w base 23 o.type 3 i _ 8 Tryz.underlying23 hi' hz hsz hby rfl v n xs h1 b c _ hc rfl (by unfold maxLen; omega) (by omega) hbase
  refine wpList_plain hgd fun K hK => ?_
  unfold Oper.wp
  simp [execOp, ho, resolve, invoke, builtin, hs, hx, hrun, Result.andThen]
  refine hK _ _ (h v' w' (LR.of_owns e2 (by omega) (fun u hu => ?_)) ⟨e3.os, e3.tape, e3.output, e3.size, fun k hk => e3.block k (by omega) (fun e => ?_)⟩)
  · rcases List.mem_append.1 hu with hu | hu
    · exact h2 u hu
    · simp at hu; subst hu; exact ⟨y, rfl, hy.1, hy.2⟩
  · have := (World.ownsRow.lt h1 k e.symm).1
    omega
/-- Numbers in a block that S names, or nil. -/
def IV (S : Nat → Prop) (w : World) (v : Value) (xs : List Int) : Prop :=
  ((v = .slice none 0 0 ∧ xs = []) ∨ RowW w v xs) ∧ (∀ g, v.ownBlock = some g → S g) ∧ xs.length ≤ 100 ∧ ∀ i, i < xs.length → -100000 ≤ at0 xs i ∧ at0 xs i ≤ 100000
theorem IV.nil_ (S : Nat → Prop) (w : World) : IV S w (.slice none 0 0) [] := ⟨.inl ⟨rfl, rfl⟩, (fun g hg => by cases hg), Nat.zero_le _, fun i hi => absurd hi (by simp)⟩
theorem IV.keep {S T : Nat → Prop} {w w' : World} {v : Value} {xs : List Int} (h : IV S w v xs) (hk : Keep T w w') (hS : ∀ k, S k → T k) : IV S w' v xs :=
  ⟨h.1.imp id (fun h1 => h1.keep9 hk (fun g hg => hS g (h.2.1 g hg))), h.2⟩
theorem IV.ext {S : Nat → Prop} {w w' : World} {v : Value} {xs : List Int} (h : IV S w v xs) (hx : Ext w w') : IV S w' v xs := h.keep (hx.keep (fun _ => True)) (fun _ _ => trivial)
theorem IV.mono {S T : Nat → Prop} {w : World} {v : Value} {xs : List Int} (h : IV S w v xs) (hS : ∀ k, S k → T k) : IV T w v xs := ⟨h.1, fun g hg => hS g (h.2.1 g hg), h.2.2⟩
theorem IV.form {S : Nat → Prop} {w : World} {v : Value} {xs : List Int} (h : IV S w v xs) : ∃ A c, v = .slice A xs.length c ∧ xs.length ≤ c := by
  rcases h.1 with ⟨rfl, rfl⟩ | ⟨g, cap, m, f, rfl, h, -⟩
  · exact ⟨_, _, rfl, Nat.le_refl _⟩
  · exact ⟨_, _, rfl, h⟩
theorem IV.ints {S : Nat → Prop} {w : World} {v : Value} {xs : List Int} (h : IV S w v xs) : SInts w v xs := by
  obtain ⟨h1, -, h3, h4⟩ := h
  have hb : ∀ i, i < xs.length → I64 (at0 xs i) := fun i hi => by have := h4 i hi; unfold I64; omega
  rcases h1 with ⟨rfl, rfl⟩ | h1
  · exact ⟨_, _, rfl, Nat.le_refl _, by simp, fun i hi => absurd hi (by simp), fun hp => absurd hp (by simp)⟩
  · exact h1.ints (by omega) hb
theorem LN.iv {base : Nat} {w : World} {v : Value} {n : Nat} {lo hi : Int} (h : LN base w v n lo hi) (hn : n ≤ 100) (h1 : -100000 ≤ lo) (h2 : hi ≤ 100000) : ∃ xs, xs.length = n ∧ IV (fun k => base ≤ k) w v xs ∧ ∀ i, i < n → lo ≤ at0 xs i ∧ at0 xs i ≤ hi := by
  rcases h with ⟨rfl, rfl⟩ | h
  · exact ⟨[], rfl, IV.nil_ _ _, fun i hi => absurd hi (by omega)⟩
  · obtain ⟨xs, e1, e2, e3, e4⟩ := h.rowW
    exact ⟨xs, e1, ⟨.inr e2, e4, by omega, fun i hi => by have := e3 i (by omega); omega⟩, e3⟩
/-- Rows in blocks that S names. -/
def RV (S : Nat → Prop) (w : World) (v : Value) (rs : List (List Int)) : Prop :=
  AppRS S w v rs ∧ rs.length ≤ 100 ∧ ∀ i, i < rs.length → (rw0 rs i).length ≤ 100 ∧ ∀ j, j < (rw0 rs i).length → -100000 ≤ at0 (rw0 rs i) j ∧ at0 (rw0 rs i) j ≤ 100000
theorem RV.nil_ (S : Nat → Prop) (w : World) : RV S w (.slice none 0 0) [] := ⟨AppRS.nil_ _ _, Nat.zero_le _, fun i hi => absurd hi (by simp)⟩
theorem RV.keep {S T : Nat → Prop} {w w' : World} {v : Value} {rs : List (List Int)} (h : RV S w v rs) (hk : Keep T w w') (hS : ∀ k, S k → T k) : RV S w' v rs := ⟨h.1.keep hk hS, h.2⟩
theorem RV.ext {S : Nat → Prop} {w w' : World} {v : Value} {rs : List (List Int)} (h : RV S w v rs) (hx : Ext w w') : RV S w' v rs := ⟨h.1.ext hx, h.2⟩
theorem AppRS.mono9 {S T : Nat → Prop} {w : World} {v : Value} {rs : List (List Int)} (h : AppRS S w v rs) (hS : ∀ k, S k → T k) : AppRS T w v rs := by
  obtain ⟨cells, h1, h2, h3⟩ := h
  exact ⟨cells, h1, fun g hg => hS g (h2 g hg), fun i hi => by obtain ⟨cv, q1, q2, q3⟩ := h3 i hi; exact ⟨cv, q1, q2, fun g hg => hS g (q3 g hg)⟩⟩
theorem RV.mono {S T : Nat → Prop} {w : World} {v : Value} {rs : List (List Int)} (h : RV S w v rs) (hS : ∀ k, S k → T k) : RV T w v rs := ⟨h.1.mono9 hS, h.2⟩
theorem RV.rows {S : Nat → Prop} {w : World} {v : Value} {rs : List (List Int)} (h : RV S w v rs) : SRows w v rs :=
  h.1.rows (by have := h.2.1; omega) (fun i hi => by have := (h.2.2 i hi).1; omega) (fun i hi j hj => by have := (h.2.2 i hi).2 j hj; unfold I64; omega)
end Go.Proofs.YtalgilgfoekioaaGreatDoor
/- Draws of the generator: a constraint in the making. -/
namespace Go.Proofs.YtalgilgfoekioaaGreatDoor
open Go.RowKit

/-- v is a constraint whose lists lie in blocks that S names. -/
def CV (S : Nat → Prop) (w : World) (v : Value) (c : Con) : Prop :=
  ∃ vv va vr, v = .agg #[.int .i64 c.kk, vv, va, .int .i64 c.bound, vr] ∧ IV S w vv c.vars ∧ IV S w va c.args ∧ RV S w vr c.rows
theorem CV.keep {S T : Nat → Prop} {w w' : World} {v : Value} {c : Con} (h : CV S w v c) (hk : Keep T w w') (hS : ∀ k, S k → T k) : CV S w' v c := by
  obtain ⟨vv, va, vr, rfl, h1, h2, h3⟩ := h
  exact ⟨vv, va, vr, rfl, h1.keep hk hS, h2.keep hk hS, h3.keep hk hS⟩
theorem CV.mono {S T : Nat → Prop} {w : World} {v : Value} {c : Con} (h : CV S w v c) (hS : ∀ k, S k → T k) : CV T w v c := by
  obtain ⟨vv, va, vr, rfl, h1, h2, h3⟩ := h
  exact ⟨vv, va, vr, rfl, h1.mono hS, h2.mono hS, h3.mono hS⟩
/-- A constraint came. -/
def CGot (w0 : World) (br N : Nat) (W : World) (e : Ending) (W' : World) : Prop :=
  ∃ v c, e = .returned v ∧ (0 < c.vars.length ∧ c.vars.length ≤ 99 ∧ c.args.length ≤ 99) ∧ CV (fun k => W.heap.size ≤ k) W' v c ∧ RdSt w0 br N W' ∧ Keep (fun k => k ≠ br) W W'
/-- A constraint in the making: it lies in block bc. -/
structure CB (w0 : World) (br bc N : Nat) (W wr : World) (c : Con) (vv va vr : Value) : Prop where
  c0 : wr.cell? ⟨bc, 0, none⟩ = some (.int .i64 c.kk)
  c1 : wr.cell? ⟨bc, 1, none⟩ = some vv
  c2 : wr.cell? ⟨bc, 2, none⟩ = some va
  c3 : wr.cell? ⟨bc, 3, none⟩ = some (.int .i64 c.bound)
  c4 : wr.cell? ⟨bc, 4, none⟩ = some vr
  fz : ∀ i, wr.frozen? ⟨bc, i, none⟩ = false
  iv : IV (fun k => W.heap.size ≤ k ∧ k ≠ bc) wr vv c.vars
  ia : IV (fun k => W.heap.size ≤ k ∧ k ≠ bc) wr va c.args
  ir : RV (fun k => W.heap.size ≤ k ∧ k ≠ bc) wr vr c.rows
  nv : 0 < c.vars.length
  b0 : W.heap.size ≤ bc
  b1 : bc < wr.heap.size
  rd : RdSt w0 br N wr
  kp : Keep (fun k => k ≠ br) W wr
  br0 : br < W.heap.size
  w00 : w0.heap.size ≤ W.heap.size
theorem CB.keep {w0 : World} {br bc N M : Nat} {W wr w2 : World} {c : Con} {vv va vr : Value} (h : CB w0 br bc N W wr c vv va vr) (hR : RdSt w0 br M w2) (hK : Keep (fun k => k ≠ br) wr w2) : CB w0 br bc M W w2 c vv va vr := by
  have hb : bc ≠ br := by have := h.b0; have := h.br0; omega
  have hS : ∀ k, (W.heap.size ≤ k ∧ k ≠ bc) → k ≠ br := fun k hk => by have := h.br0; omega
  exact ⟨(hK.cell (p := ⟨bc, 0, none⟩) h.b1 hb).trans h.c0, (hK.cell (p := ⟨bc, 1, none⟩) h.b1 hb).trans h.c1, (hK.cell (p := ⟨bc, 2, none⟩) h.b1 hb).trans h.c2, (hK.cell (p := ⟨bc, 3, none⟩) h.b1 hb).trans h.c3,
    (hK.cell (p := ⟨bc, 4, none⟩) h.b1 hb).trans h.c4, fun i => (hK.frz (p := ⟨bc, i, none⟩) h.b1 hb).trans (h.fz i), h.iv.keep hK hS, h.ia.keep hK hS, h.ir.keep hK hS, h.nv, h.b0, Nat.lt_of_lt_of_le h.b1 hK.size, hR, h.kp.trans hK, h.br0, h.w00⟩
theorem CB.grow {w0 : World} {br bc N : Nat} {W wr w2 : World} {c : Con} {vv va vr : Value} (h : CB w0 br bc N W wr c vv va vr) (hx : Ext wr w2) : CB w0 br bc N W w2 c vv va vr := h.keep (h.rd.grow hx) (hx.keep _)
/-- A field is set. -/
theorem CB.set {w0 : World} {br bc N i : Nat} {W wr : World} {c c' : Con} {vv va vr vv' va' vr' u : Value} (h : CB w0 br bc N W wr c vv va vr)
    (h0 : (wr.setCell ⟨bc, i, none⟩ u).cell? ⟨bc, 0, none⟩ = some (.int .i64 c'.kk)) (h1 : (wr.setCell ⟨bc, i, none⟩ u).cell? ⟨bc, 1, none⟩ = some vv') (h2 : (wr.setCell ⟨bc, i, none⟩ u).cell? ⟨bc, 2, none⟩ = some va')
    (h3 : (wr.setCell ⟨bc, i, none⟩ u).cell? ⟨bc, 3, none⟩ = some (.int .i64 c'.bound)) (h4 : (wr.setCell ⟨bc, i, none⟩ u).cell? ⟨bc, 4, none⟩ = some vr')
    (k1 : IV (fun k => W.heap.size ≤ k ∧ k ≠ bc) wr vv' c'.vars) (k2 : IV (fun k => W.heap.size ≤ k ∧ k ≠ bc) wr va' c'.args) (k3 : RV (fun k => W.heap.size ≤ k ∧ k ≠ bc) wr vr' c'.rows) (k4 : 0 < c'.vars.length) :
    CB w0 br bc N W (wr.setCell ⟨bc, i, none⟩ u) c' vv' va' vr' := by
  have hK : Keep (fun k => k ≠ bc) wr (wr.setCell ⟨bc, i, none⟩ u) := (Keep.refl _ wr).set (p := ⟨bc, i, none⟩) (fun _ hh => hh rfl) u
  exact ⟨h0, h1, h2, h3, h4, fun j => (World.frozen?_setCell ..).trans (h.fz j), k1.keep hK (fun k hk => hk.2), k2.keep hK (fun k hk => hk.2), k3.keep hK (fun k hk => hk.2), k4, h.b0, by simpa [World.setCell] using h.b1,
    h.rd.keep hK (by have := h.b0; have := h.br0; omega) (fun k hk => by have := h.b0; have := h.w00; omega), h.kp.trans9 hK (fun k hk _ => by have := h.b0; omega), h.br0, h.w00⟩
theorem CB.set0 {w0 : World} {br bc N : Nat} {W wr : World} {c : Con} {vv va vr : Value} (h : CB w0 br bc N W wr c vv va vr) (k : Int) : CB w0 br bc N W (wr.setCell ⟨bc, 0, none⟩ (.int .i64 k)) { c with kk := k } vv va vr :=
  h.set (World.cell?_setCell_same' _ _ _ (by rw [h.c0]; rfl)) ((World.cell?_setCell_other _ _ _ _ (by simp)).trans h.c1) ((World.cell?_setCell_other _ _ _ _ (by simp)).trans h.c2) ((World.cell?_setCell_other _ _ _ _ (by simp)).trans h.c3) ((World.cell?_setCell_other _ _ _ _ (by simp)).trans h.c4) h.iv h.ia h.ir h.nv
theorem CB.set1 {w0 : World} {br bc N : Nat} {W wr : World} {c : Con} {vv va vr u : Value} {xs : List Int} (h : CB w0 br bc N W wr c vv va vr) (hu : IV (fun k => W.heap.size ≤ k ∧ k ≠ bc) wr u xs) (hl : 0 < xs.length) : CB w0 br bc N W (wr.setCell ⟨bc, 1, none⟩ u) { c with vars := xs } u va vr :=
  h.set ((World.cell?_setCell_other _ _ _ _ (by simp)).trans h.c0) (World.cell?_setCell_same' _ _ _ (by rw [h.c1]; rfl)) ((World.cell?_setCell_other _ _ _ _ (by simp)).trans h.c2) ((World.cell?_setCell_other _ _ _ _ (by simp)).trans h.c3) ((World.cell?_setCell_other _ _ _ _ (by simp)).trans h.c4) hu h.ia h.ir hl
theorem CB.set2 {w0 : World} {br bc N : Nat} {W wr : World} {c : Con} {vv va vr u : Value} {xs : List Int} (h : CB w0 br bc N W wr c vv va vr) (hu : IV (fun k => W.heap.size ≤ k ∧ k ≠ bc) wr u xs) : CB w0 br bc N W (wr.setCell ⟨bc, 2, none⟩ u) { c with args := xs } vv u vr :=
  h.set ((World.cell?_setCell_other _ _ _ _ (by simp)).trans h.c0) ((World.cell?_setCell_other _ _ _ _ (by simp)).trans h.c1) (World.cell?_setCell_same' _ _ _ (by rw [h.c2]; rfl)) ((World.cell?_setCell_other _ _ _ _ (by simp)).trans h.c3) ((World.cell?_setCell_other _ _ _ _ (by simp)).trans h.c4) h.iv hu h.ir h.nv
theorem CB.set3 {w0 : World} {br bc N : Nat} {W wr : World} {c : Con} {vv va vr : Value} (h : CB w0 br bc N W wr c vv va vr) (k : Int) : CB w0 br bc N W (wr.setCell ⟨bc, 3, none⟩ (.int .i64 k)) { c with bound := k } vv va vr :=
  h.set ((World.cell?_setCell_other _ _ _ _ (by simp)).trans h.c0) ((World.cell?_setCell_other _ _ _ _ (by simp)).trans h.c1) ((World.cell?_setCell_other _ _ _ _ (by simp)).trans h.c2) (World.cell?_setCell_same' _ _ _ (by rw [h.c3]; rfl)) ((World.cell?_setCell_other _ _ _ _ (by simp)).trans h.c4) h.iv h.ia h.ir h.nv
theorem CB.set4 {w0 : World} {br bc N : Nat} {W wr : World} {c : Con} {vv va vr u : Value} {rs : List (List Int)} (h : CB w0 br bc N W wr c vv va vr) (hu : RV (fun k => W.heap.size ≤ k ∧ k ≠ bc) wr u rs) : CB w0 br bc N W (wr.setCell ⟨bc, 4, none⟩ u) { c with rows := rs } vv va u :=
  h.set ((World.cell?_setCell_other _ _ _ _ (by simp)).trans h.c0) ((World.cell?_setCell_other _ _ _ _ (by simp)).trans h.c1) ((World.cell?_setCell_other _ _ _ _ (by simp)).trans h.c2) ((World.cell?_setCell_other _ _ _ _ (by simp)).trans h.c3) (World.cell?_setCell_same' _ _ _ (by rw [h.c4]; rfl)) h.iv h.ia hu h.nv
theorem CB.start {w0 : World} {br N : Nat} {W w3 : World} {vv : Value} {xs : List Int} (K : Int) (t : TypeId) (hv : IV (fun k => W.heap.size ≤ k) w3 vv xs) (hvb : ∀ g, vv.ownBlock = some g → g < w3.heap.size) (hl : 0 < xs.length) (hb : W.heap.size ≤ w3.heap.size) (hR : RdSt w0 br N w3) (hK : Keep (fun k => k ≠ br) W w3) (hbr : br < W.heap.size) (hw : w0.heap.size ≤ W.heap.size) :
    CB w0 br w3.heap.size N W (w3.alloc (.cells #[.int .i64 K, vv, .slice none 0 0, .int .i64 0, .slice none 0 0] t)) ⟨K, xs, [], 0, []⟩ vv (.slice none 0 0) (.slice none 0 0) := by
  have hx : Ext w3 (w3.alloc (.cells #[.int .i64 K, vv, .slice none 0 0, .int .i64 0, .slice none 0 0] t)) := (Ext.refl w3).alloc _
  exact ⟨World.cell?_alloc_at _ _ _ _ rfl, World.cell?_alloc_at _ _ _ _ rfl, World.cell?_alloc_at _ _ _ _ rfl, World.cell?_alloc_at _ _ _ _ rfl, World.cell?_alloc_at _ _ _ _ rfl, fun i => World.frozen?_alloc_new _ _ _ _,
    ⟨(hv.ext hx).1, fun g hg => ⟨hv.2.1 g hg, by have := hvb g hg; omega⟩, hv.2.2⟩, IV.nil_ _ _, RV.nil_ _ _, hl, hb, by simp, hR.grow hx, hK.trans (hx.keep _), hbr, hw⟩
/-- A block of n cells that may be written. -/
def RB (rb n : Nat) (w : World) : Prop := rb < w.heap.size ∧ (∀ i, w.frozen? ⟨rb, i, none⟩ = false) ∧ ∀ i, i < n → ∃ u, w.cell? ⟨rb, i, none⟩ = some u
theorem RB.keep {rb n : Nat} {S : Nat → Prop} {w w' : World} (h : RB rb n w) (hk : Keep S w w') (hS : S rb) : RB rb n w' :=
  ⟨Nat.lt_of_lt_of_le h.1 hk.size, fun i => (hk.frz (p := ⟨rb, i, none⟩) h.1 hS).trans (h.2.1 i), fun i hi => by obtain ⟨u, hu⟩ := h.2.2 i hi; exact ⟨u, (hk.cell (p := ⟨rb, i, none⟩) h.1 hS).trans hu⟩⟩
theorem RB.five {rb : Nat} {w : World} (h : RB rb 5 w) : rb < w.heap.size ∧ ∃ u0 u1 u2 u3 u4, w.cell? ⟨rb, 0, none⟩ = some u0 ∧ w.cell? ⟨rb, 1, none⟩ = some u1 ∧ w.cell? ⟨rb, 2, none⟩ = some u2 ∧ w.cell? ⟨rb, 3, none⟩ = some u3 ∧ w.cell? ⟨rb, 4, none⟩ = some u4 ∧
    w.frozen? ⟨rb, 0, none⟩ = false ∧ w.frozen? ⟨rb, 1, none⟩ = false ∧ w.frozen? ⟨rb, 2, none⟩ = false ∧ w.frozen? ⟨rb, 3, none⟩ = false ∧ w.frozen? ⟨rb, 4, none⟩ = false := by
  obtain ⟨h1, h2, h3⟩ := h
  obtain ⟨u0, a0⟩ := h3 0 (by omega)
  obtain ⟨u1, a1⟩ := h3 1 (by omega)
  obtain ⟨u2, a2⟩ := h3 2 (by omega)
  obtain ⟨u3, a3⟩ := h3 3 (by omega)
  obtain ⟨u4, a4⟩ := h3 4 (by omega)
  exact ⟨h1, u0, u1, u2, u3, u4, a0, a1, a2, a3, a4, h2 _, h2 _, h2 _, h2 _, h2 _⟩
/-- The constraint is copied into the block of the result. -/
theorem CB.done {w0 : World} {br bc N M rb : Nat} {W Wb wr w' : World} {c : Con} {vv va vr : Value} (h : CB w0 br bc N Wb wr c vv va vr) (hx : Ext W Wb) (hs : Wb.heap.size = W.heap.size + 1) (hr : rb = W.heap.size) (hk : Keep (fun k => k ≠ rb) wr w') (hbr : br < W.heap.size) (hw : w0.heap.size ≤ W.heap.size) (hN : N ≤ M) (hl : c.vars.length ≤ 99 ∧ c.args.length ≤ 99) :
    CGot w0 br M W (.returned (.agg #[.int .i64 c.kk, vv, va, .int .i64 c.bound, vr])) w' := by
  subst hr
  have hS : ∀ k, Wb.heap.size ≤ k ∧ k ≠ bc → k ≠ W.heap.size := fun k hk => by omega
  have hS2 : ∀ k, Wb.heap.size ≤ k ∧ k ≠ bc → W.heap.size ≤ k := fun k hk => by omega
  exact ⟨_, c, rfl, ⟨h.nv, hl⟩, ⟨vv, va, vr, rfl, (h.iv.keep hk hS).mono hS2, (h.ia.keep hk hS).mono hS2, (h.ir.keep hk hS).mono hS2⟩, (h.rd.keep hk (by omega) (fun k hk => by omega)).mono hN,
    ((hx.keep _).trans h.kp).trans9 hk (fun k hk _ => by omega)⟩
theorem IV.one (S : Nat → Prop) (w : World) (x : Int) (hS : S w.heap.size) (hx : -100000 ≤ x ∧ x ≤ 100000) : IV S (w.alloc (.cells #[.int .i64 x] 3)) (.slice (some ⟨w.heap.size, 0, none⟩) 1 1) [x] := by
  refine ⟨.inr ⟨w.heap.size, 1, 1, fun _ => vI x, rfl, Nat.le_refl _, Nat.le_refl _, ⟨#[.int .i64 x], World.alloc_heap_new w _, rfl, fun i hi => ?_⟩, fun i hi => ?_⟩, (fun g hg => ?_), by simp, fun i hi => ?_⟩
  · obtain rfl : i = 0 := by omega
    rfl
  · obtain rfl : i = 0 := by simpa using hi
    rfl
  · have hg : some w.heap.size = some g := hg
    injection hg with hg
    subst hg
    exact hS
  · obtain rfl : i = 0 := by simpa using hi
    exact hx
end Go.Proofs.YtalgilgfoekioaaGreatDoor
/- Draws of the generator: a constraint. -/
namespace Go.Proofs.YtalgilgfoekioaaGreatDoor
open Go.RowKit

theorem newL12 (w : World) (t : TypeId) (xs : List Int) {lo hi : Int} (h : ∀ x ∈ xs, lo ≤ x ∧ x ≤ hi) : ∀ j, j < xs.length → ∃ x : Int, (w.alloc (.cells (xs.map vI).toArray t)).cell? ⟨w.heap.size, j, none⟩ = some (vI x) ∧ lo ≤ x ∧ x ≤ hi := by
  intro j hj
  refine ⟨xs[j], (World.cell?_alloc_at _ _ _ _ rfl).trans ?_, h _ (List.getElem_mem hj)⟩
  simp [hj]
theorem Below.keep12 {B : Nat} {w w' : World} (h : Below B w w') : Keep (fun k => k < B) w w' := ⟨h.os, h.tape, h.output, h.size, fun k _ hs => h.block k hs⟩
theorem IV.lt {S : Nat → Prop} {w : World} {v : Value} {xs : List Int} (h : IV S w v xs) : ∀ g, v.ownBlock = some g → g < w.heap.size := by
  intro g hg
  rcases h.1 with ⟨rfl, -⟩ | ⟨b, cap, m, f, rfl, -, -, h1, -⟩
  · cases hg
  · have hg : some b = some g := hg
    injection hg with hg
    subst hg
    exact h1.lt
theorem RV.snoc {S : Nat → Prop} {w w' : World} {v v' : Value} {rs : List (List Int)} {xs : List Int} (h : RV S w v rs) (ha : AppRS S w' v' (rs ++ [xs])) (hl : rs.length < 100) (hx : xs.length ≤ 100) (hb : ∀ j, j < xs.length → -100000 ≤ at0 xs j ∧ at0 xs j ≤ 100000) : RV S w' v' (rs ++ [xs]) := by
  refine ⟨ha, by simp; omega, fun i hi => ?_⟩
  by_cases hlt : i < rs.length
  · rw [show rw0 (rs ++ [xs]) i = rw0 rs i by simp [rw0, List.getElem?_append_left hlt]]
    exact h.2.2 i hlt
  · obtain rfl : i = rs.length := by simp at hi; omega
    rw [show rw0 (rs ++ [xs]) rs.length = xs by simp [rw0]]
    exact ⟨hx, hb⟩
/-- A constraint in the making, the block of the result beside it. -/
structure CR (w0 : World) (br rb bc N : Nat) (W wr : World) (c : Con) (vv va vr : Value) : Prop where
  b : CB w0 br bc N W wr c vv va vr
  r : RB rb 5 wr
  r1 : rb ≠ br
  r2 : rb < W.heap.size
theorem CR.ne {w0 : World} {br rb bc N : Nat} {W wr : World} {c : Con} {vv va vr : Value} (h : CR w0 br rb bc N W wr c vv va vr) : rb ≠ bc := by
  have := h.r2; have := h.b.b0; omega
theorem CR.keep {w0 : World} {br rb bc N M : Nat} {W wr w2 : World} {c : Con} {vv va vr : Value} (h : CR w0 br rb bc N W wr c vv va vr) (hR : RdSt w0 br M w2) (hK : Keep (fun k => k ≠ br) wr w2) : CR w0 br rb bc M W w2 c vv va vr :=
  ⟨h.b.keep hR hK, h.r.keep hK h.r1, h.r1, h.r2⟩
theorem CR.mono {w0 : World} {br rb bc N M : Nat} {W wr : World} {c : Con} {vv va vr : Value} (h : CR w0 br rb bc N W wr c vv va vr) (hN : N ≤ M) : CR w0 br rb bc M W wr c vv va vr := h.keep (h.b.rd.mono hN) (Keep.refl _ _)
theorem CR.grow {w0 : World} {br rb bc N : Nat} {W wr w2 : World} {c : Con} {vv va vr : Value} (h : CR w0 br rb bc N W wr c vv va vr) (hx : Ext wr w2) : CR w0 br rb bc N W w2 c vv va vr := h.keep (h.b.rd.grow hx) (hx.keep _)
theorem CR.rset {w0 : World} {br rb bc N : Nat} {W wr : World} {c : Con} {vv va vr : Value} (h : CR w0 br rb bc N W wr c vv va vr) (i : Nat) (u : Value) : RB rb 5 (wr.setCell ⟨bc, i, none⟩ u) :=
  h.r.keep ((Keep.refl (fun k => k ≠ bc) wr).set (p := ⟨bc, i, none⟩) (fun _ hh => hh rfl) u) h.ne
theorem CR.set0 {w0 : World} {br rb bc N : Nat} {W wr : World} {c : Con} {vv va vr : Value} (h : CR w0 br rb bc N W wr c vv va vr) (k : Int) : CR w0 br rb bc N W (wr.setCell ⟨bc, 0, none⟩ (.int .i64 k)) { c with kk := k } vv va vr := ⟨h.b.set0 k, h.rset _ _, h.r1, h.r2⟩
theorem CR.set1 {w0 : World} {br rb bc N : Nat} {W wr : World} {c : Con} {vv va vr u : Value} {xs : List Int} (h : CR w0 br rb bc N W wr c vv va vr) (hu : IV (fun k => W.heap.size ≤ k ∧ k ≠ bc) wr u xs) (hl : 0 < xs.length) : CR w0 br rb bc N W (wr.setCell ⟨bc, 1, none⟩ u) { c with vars := xs } u va vr := ⟨h.b.set1 hu hl, h.rset _ _, h.r1, h.r2⟩
theorem CR.set2 {w0 : World} {br rb bc N : Nat} {W wr : World} {c : Con} {vv va vr u : Value} {xs : List Int} (h : CR w0 br rb bc N W wr c vv va vr) (hu : IV (fun k => W.heap.size ≤ k ∧ k ≠ bc) wr u xs) : CR w0 br rb bc N W (wr.setCell ⟨bc, 2, none⟩ u) { c with args := xs } vv u vr := ⟨h.b.set2 hu, h.rset _ _, h.r1, h.r2⟩
theorem CR.set3 {w0 : World} {br rb bc N : Nat} {W wr : World} {c : Con} {vv va vr : Value} (h : CR w0 br rb bc N W wr c vv va vr) (k : Int) : CR w0 br rb bc N W (wr.setCell ⟨bc, 3, none⟩ (.int .i64 k)) { c with bound := k } vv va vr := ⟨h.b.set3 k, h.rset _ _, h.r1, h.r2⟩
theorem CR.set4 {w0 : World} {br rb bc N : Nat} {W wr : World} {c : Con} {vv va vr u : Value} {rs : List (List Int)} (h : CR w0 br rb bc N W wr c vv va vr) (hu : RV (fun k => W.heap.size ≤ k ∧ k ≠ bc) wr u rs) : CR w0 br rb bc N W (wr.setCell ⟨bc, 4, none⟩ u) { c with rows := rs } vv va u := ⟨h.b.set4 hu, h.rset _ _, h.r1, h.r2⟩
/-- A list of one number is made and set as the arguments. -/
theorem CR.one2 {w0 : World} {br rb bc N : Nat} {W wr : World} {c : Con} {vv va vr : Value} (h : CR w0 br rb bc N W wr c vv va vr) (z : Int) (hz : -100000 ≤ z ∧ z ≤ 100000) :
    CR w0 br rb bc N W ((wr.setCell ⟨bc, 2, none⟩ (.slice (some ⟨wr.heap.size, 0, none⟩) 1 1)).alloc (.cells #[.int .i64 z] 3)) { c with args := [z] } vv (.slice (some ⟨wr.heap.size, 0, none⟩) 1 1) vr := by
  have hb0 := h.b.b0
  have hb1 := h.b.b1
  have h1 := (h.grow ((Ext.refl wr).alloc (.cells #[.int .i64 z] 3))).set2 (IV.one _ wr z ⟨by omega, by omega⟩ hz)
  rw [World.setCell_alloc_past _ _ _ _ h.b.b1] at h1
  exact h1
/-- The arguments were appended to, in blocks from base on. -/
theorem CR.far2 {w0 : World} {br rb bc N base : Nat} {W wr w1 : World} {c : Con} {vv va : Value} (h : CR w0 br rb bc N W wr c vv va (.slice none 0 0)) (hk : Keep (fun k => k < base) wr w1) (hb : bc < base) (hvb : ∀ g, vv.ownBlock = some g → g < base) (hr : c.rows = [])
    {u : Value} {ys : List Int} (hu : IV (fun k => base ≤ k) w1 u ys) : CR w0 br rb bc N W (w1.setCell ⟨bc, 2, none⟩ u) { c with args := ys } vv u (.slice none 0 0) := by
  have b0 := h.b.b0
  have b1 := h.b.b1
  have hbr := h.b.br0
  have hw0 := h.b.w00
  have hr2 := h.r2
  have hs := hk.size
  have hk2 : Keep (fun k => k < base ∧ k ≠ bc) wr (w1.setCell ⟨bc, 2, none⟩ u) := (hk.mono (fun k _ hh => hh.1)).set (p := ⟨bc, 2, none⟩) (fun _ hh => hh.2 rfl) u
  refine ⟨⟨(World.cell?_setCell_other _ _ _ _ (by simp)).trans ((hk.cell (p := ⟨bc, 0, none⟩) b1 hb).trans h.b.c0), (World.cell?_setCell_other _ _ _ _ (by simp)).trans ((hk.cell (p := ⟨bc, 1, none⟩) b1 hb).trans h.b.c1),
    World.cell?_setCell_same' _ _ _ (by rw [(hk.cell (p := ⟨bc, 2, none⟩) b1 hb).trans h.b.c2]; rfl), (World.cell?_setCell_other _ _ _ _ (by simp)).trans ((hk.cell (p := ⟨bc, 3, none⟩) b1 hb).trans h.b.c3),
    (World.cell?_setCell_other _ _ _ _ (by simp)).trans ((hk.cell (p := ⟨bc, 4, none⟩) b1 hb).trans h.b.c4), fun i => (World.frozen?_setCell ..).trans ((hk.frz (p := ⟨bc, i, none⟩) b1 hb).trans (h.b.fz i)),
    ⟨h.b.iv.1.imp id (fun h1 => h1.keep9 hk2 (fun g hg => ⟨hvb g hg, (h.b.iv.2.1 g hg).2⟩)), h.b.iv.2⟩,
    (hu.keep (T := fun k => k ≠ bc) ((Keep.refl _ _).set (p := ⟨bc, 2, none⟩) (fun _ hh => hh rfl) u) (fun k hk => by omega)).mono (fun k hk => ⟨by omega, by omega⟩), ?_, h.b.nv, b0, by simp [World.setCell]; omega,
    h.b.rd.keep hk2 ⟨by omega, by omega⟩ (fun k hk => ⟨by omega, by omega⟩), h.b.kp.trans9 hk2 (fun k hk _ => ⟨by omega, by omega⟩), hbr, hw0⟩, h.r.keep hk2 ⟨by omega, h.ne⟩, h.r1, h.r2⟩
  show RV _ _ _ c.rows
  rw [hr]
  exact RV.nil_ _ _
/-- The rows were appended to, in blocks from base on. -/
theorem CR.far4 {w0 : World} {br rb bc N base : Nat} {W wr w1 : World} {c : Con} {vv vr : Value} (h : CR w0 br rb bc N W wr c vv (.slice none 0 0) vr) (hk : Keep (fun k => k < base) wr w1) (hb : bc < base) (hvb : ∀ g, vv.ownBlock = some g → g < base) (hr : c.args = [])
    {u : Value} {rs : List (List Int)} (hu : RV (fun k => base ≤ k) w1 u rs) : CR w0 br rb bc N W (w1.setCell ⟨bc, 4, none⟩ u) { c with rows := rs } vv (.slice none 0 0) u := by
  have b0 := h.b.b0
  have b1 := h.b.b1
  have hbr := h.b.br0
  have hw0 := h.b.w00
  have hr2 := h.r2
  have hs := hk.size
  have hk2 : Keep (fun k => k < base ∧ k ≠ bc) wr (w1.setCell ⟨bc, 4, none⟩ u) := (hk.mono (fun k _ hh => hh.1)).set (p := ⟨bc, 4, none⟩) (fun _ hh => hh.2 rfl) u
  refine ⟨⟨(World.cell?_setCell_other _ _ _ _ (by simp)).trans ((hk.cell (p := ⟨bc, 0, none⟩) b1 hb).trans h.b.c0), (World.cell?_setCell_other _ _ _ _ (by simp)).trans ((hk.cell (p := ⟨bc, 1, none⟩) b1 hb).trans h.b.c1),
    (World.cell?_setCell_other _ _ _ _ (by simp)).trans ((hk.cell (p := ⟨bc, 2, none⟩) b1 hb).trans h.b.c2), (World.cell?_setCell_other _ _ _ _ (by simp)).trans ((hk.cell (p := ⟨bc, 3, none⟩) b1 hb).trans h.b.c3),
    World.cell?_setCell_same' _ _ _ (by rw [(hk.cell (p := ⟨bc, 4, none⟩) b1 hb).trans h.b.c4]; rfl), fun i => (World.frozen?_setCell ..).trans ((hk.frz (p := ⟨bc, i, none⟩) b1 hb).trans (h.b.fz i)),
    ⟨h.b.iv.1.imp id (fun h1 => h1.keep9 hk2 (fun g hg => ⟨hvb g hg, (h.b.iv.2.1 g hg).2⟩)), h.b.iv.2⟩, ?_,
    (hu.keep (T := fun k => k ≠ bc) ((Keep.refl _ _).set (p := ⟨bc, 4, none⟩) (fun _ hh => hh rfl) u) (fun k hk => by omega)).mono (fun k hk => ⟨by omega, by omega⟩), h.b.nv, b0, by simp [World.setCell]; omega,
    h.b.rd.keep hk2 ⟨by omega, by omega⟩ (fun k hk => ⟨by omega, by omega⟩), h.b.kp.trans9 hk2 (fun k hk _ => ⟨by omega, by omega⟩), hbr, hw0⟩, h.r.keep hk2 ⟨by omega, h.ne⟩, h.r1, h.r2⟩
  show IV _ _ _ c.args
  rw [hr]
  exact IV.nil_ _ _
/-- The constraint has its kind and its variables. -/
def CS (w0 : World) (br rb bc N : Nat) (Wb wx : World) (K : Int) : Prop :=
  ∃ xs vv, xs.length ≤ 4 ∧ CR w0 br rb bc N Wb wx ⟨K, xs, [], 0, []⟩ vv (.slice none 0 0) (.slice none 0 0)
/-- The constraint is done. -/
def CE (w0 : World) (br rb bc N : Nat) (Wb wx : World) : Prop :=
  ∃ c vv va vr, CR w0 br rb bc N Wb wx c vv va vr ∧ c.vars.length ≤ 99 ∧ c.args.length ≤ 99

set_option maxRecDepth 100000 in
set_option maxHeartbeats 8000000 in
theorem randomConstraint_any (w0 : World) (br N n : Nat) (W : World) (hn1 : 1 ≤ n) (hn4 : n ≤ 4) (hN : N ≤ 70000) (hR : RdSt w0 br N W) :
    Calls Tryz.prog 54 #[.pointer (some ⟨br, 0, none⟩), .int .i64 n] W (CGot w0 br (N + 100) W) := by
  have HR := hide hR
  have hbr := hR.lt
  have hw0 := hR.ext.size
  clear hR
  go_enter Tryz.func54, Tryz.ntmps54
  go_wp2_with fail
  refine (pick_any w0 br N n _ (by omega) (by omega) (by omega) (HR.out.grow ((Ext.refl W).alloc _))).mono ?_
  rintro e W1 ⟨k, k0, k1, rfl, hR1, hK1⟩
  have HR1 := hide hR1
  obtain ⟨Wb, hxb, hsb, hbb, hK1⟩ : ∃ Wb, Ext W Wb ∧ Wb.heap.size = W.heap.size + 1 ∧ RB W.heap.size 5 Wb ∧ Keep (fun k => k ≠ br) Wb W1 := by
    refine ⟨_, (Ext.refl W).alloc _, by simp, ⟨by simp, fun i => World.frozen?_alloc_new _ _ _ _, fun i hi => ?_⟩, hK1⟩
    obtain rfl | rfl | rfl | rfl | rfl : i = 0 ∨ i = 1 ∨ i = 2 ∨ i = 3 ∨ i = 4 := by omega
    all_goals exact ⟨_, World.cell?_alloc_at _ _ _ _ rfl⟩
  have HXB := hide hxb
  have HSB := hide hsb
  have HBB := hide hbb
  have hsz0 : W.heap.size + 1 ≤ Wb.heap.size := by omega
  have HK1 := hide hK1
  have hz1 := hK1.size
  have hwk : IntKind.i64.wrap (1 + k) = 1 + k := IntWalk.i64_in _ (by omega)
  clear hR1 hK1 hxb hsb hbb
  go_upto_region 2 with fail
  go_cut [6] from 10 (fun s6 wx => ∃ bc y, 0 ≤ y ∧ y < 9 ∧ s6 = .pointer (some ⟨bc, 0, none⟩) ∧ CS w0 br W.heap.size bc (N + 6) Wb wx (1 + y))
  case first =>
    go_wp2_with fail
    refine (pick_any w0 br (N + 1) 9 _ (by omega) (by omega) (by omega) HR1.out).mono ?_
    rintro e W2 ⟨y, y0, y1, rfl, hR2, hK2⟩
    have HR2 := hide hR2
    have HK2 := hide (HK1.out.trans hK2)
    have hz2 := hK2.size
    have hwy : IntKind.i64.wrap (1 + y) = 1 + y := IntWalk.i64_in _ (by omega)
    clear hR2 hK2
    go_wp2_with fail
    obtain ⟨k', rfl⟩ : ∃ k' : Nat, k = k' := ⟨k.toNat, by omega⟩
    have hsv := someVars_any w0 br (N + 2) n (k' + 1) _ hn1 hn4 (by omega) (by omega) (by omega) HR2.out
    rw [show ((k' + 1 : Nat) : Int) = 1 + (k' : Int) by omega] at hsv
    refine hsv.mono ?_
    clear hsv
    rintro e W3 ⟨vv, rfl, hL3, hR3, hK3⟩
    obtain ⟨g, cap, rfl, hg, hgl, hcap⟩ := hL3.form
    have HR3 := hide hR3
    have HK3 := hide (HK2.out.trans hK3)
    have HL3 := hide hL3
    have hz3 := hK3.size
    have HM := hide (show (if k' + 1 ≤ n then k' + 1 else n) ≤ n ∧ 0 < (if k' + 1 ≤ n then k' + 1 else n) by split <;> omega)
    clear hR3 hK3 hL3
    generalize (if k' + 1 ≤ n then k' + 1 else n) = m at *
    have hm := HM.out
    go_wp2_with fail
    go_meet
    obtain ⟨xs, hxl, hxv, -⟩ := LN.iv (.inr HL3.out) (by omega) (by omega) (by omega)
    refine ⟨W3.heap.size, y, y0, by omega, rfl, xs, _, by omega, CB.start (W := Wb) (w0 := w0) (br := br) (1 + y) 60 (hxv.mono (fun k hk => by omega)) (fun g' hg' => by have hg' : some g = some g' := hg'; injection hg' with hg'; omega) (by omega) (by omega) (HR3.out.mono (by omega)) HK3.out (by omega) (by omega), (HBB.out.keep HK3.out (by omega)).keep (((Ext.refl W3).alloc _).keep (fun _ => True)) trivial, by omega, by omega⟩
  case rest =>
    obtain ⟨bc, y, y0, y1, rfl, hcs⟩ := hcut
    have HCS := hide hcs
    clear hcs hK1 HR1 HK1 HR hz1 hwk k0 k1
    rename_i aK0
    refine aK0 _ _ (wp_seq_k fun K2 aK2 => ?_)
    clear aK0
    go_cut [6] from 10 (fun s6 wx => ∃ bc' y', 1 ≤ y' ∧ y' ≤ 9 ∧ (n < 2 → y' ≠ 2 ∧ y' ≠ 4) ∧ s6 = .pointer (some ⟨bc', 0, none⟩) ∧ CS w0 br W.heap.size bc' (N + 6) Wb wx y')
    case first =>
      obtain ⟨xs, vv, hx4, hcr⟩ := HCS.out
      have hcb := hcr.b
      have HCR := hide hcr
      have c0 := hcb.c0
      have z0 := hcb.fz 0
      have hbc := hcb.b1
      have hne : bc ≠ W.heap.size := by have := hcb.b0; have := HSB.out; omega
      dsimp only at c0
      clear hcb hcr
      by_cases h2 : n < 2
      · have h2' : (n : Int) < 2 := by omega
        by_cases hy1 : y = 1
        · subst hy1
          go_wp2_with fail
          go_meet
          exact ⟨bc, 5, by omega, by omega, fun _ => ⟨by decide, by decide⟩, rfl, xs, vv, hx4, HCR.out.set0 5⟩
        · by_cases hy3 : y = 3
          · subst hy3
            go_wp2_with fail
            go_meet
            exact ⟨bc, 5, by omega, by omega, fun _ => ⟨by decide, by decide⟩, rfl, xs, vv, hx4, HCR.out.set0 5⟩
          · have e1 : ¬ 1 + y = 2 := by omega
            have e3 : ¬ 1 + y = 4 := by omega
            have e1' : (1 + y == 2) = false := by simp [e1]
            have e3' : (1 + y == 4) = false := by simp [e3]
            go_wp2_with fail
            go_meet
            exact ⟨bc, 1 + y, by omega, by omega, fun _ => ⟨e1, e3⟩, rfl, HCS.out⟩
      · have h2' : ¬ (n : Int) < 2 := by omega
        go_wp2_with fail
        go_meet
        exact ⟨bc, 1 + y, by omega, by omega, fun h => absurd h h2, rfl, HCS.out⟩
    case rest =>
      clear HCS y0 y1
      obtain ⟨bc, y, y0, y1, hy24, rfl, hcs⟩ := hcut
      obtain ⟨xs, vv, hx4, hcr⟩ := hcs
      have hcb := hcr.b
      obtain ⟨Av, cv, hvv, -⟩ := hcb.iv.form
      dsimp only at hvv
      subst hvv
      have HCR := hide hcr
      have hx0 := hcb.nv
      dsimp only at hx0
      have hvb : ∀ g, (Value.slice Av xs.length cv).ownBlock = some g → g < wc.heap.size := hcb.iv.lt
      have c0 := hcb.c0
      have c1 := hcb.c1
      have c2 := hcb.c2
      have c3 := hcb.c3
      have c4 := hcb.c4
      have zz := hcb.fz
      have z1 := zz 1
      have z2 := zz 2
      have z3 := zz 3
      have z4 := zz 4
      have hbb := hcb.b0
      have hbc := hcb.b1
      have hne : bc ≠ W.heap.size := by have := hcb.b0; have := HSB.out; omega
      dsimp only at c0 c1 c2 c3 c4
      have HV := hide hvb
      clear hcb hcr zz hvb
      go_upto_block 0 with fail
      go_cut [6] from 7 (fun s6 wx => s6 = .pointer (some ⟨bc, 0, none⟩) ∧ CE w0 br W.heap.size bc (N + 100) Wb wx)
      case first =>
        obtain rfl | rfl | rfl | rfl | rfl | rfl | rfl | rfl | rfl : y = 1 ∨ y = 2 ∨ y = 3 ∨ y = 4 ∨ y = 5 ∨ y = 6 ∨ y = 7 ∨ y = 8 ∨ y = 9 := by omega
        · -- Linear
          go_wp2_with fail
          go_loopw [7] (fun i wr => ∃ (j : Nat) (va : Value) (ls : List Int), i = .int .i64 j ∧ j ≤ xs.length ∧ LN wc.heap.size wr va j (-3) 2 ∧ wc.heap.size ≤ wr.heap.size ∧ ls.length ≤ j ∧ CR w0 br W.heap.size bc (N + 6 + j) Wb wr ⟨1, xs, ls, 0, []⟩ (.slice Av xs.length cv) va (.slice none 0 0)) (fun i _ => xs.length - (intOf i).toNat)
          case atStart => exact ⟨0, _, [], rfl, Nat.zero_le _, .inl ⟨rfl, rfl⟩, Nat.le_refl _, Nat.le_refl _, HCR.out⟩
          case round =>
            obtain ⟨j, va, ls, rfl, hj, hL, hsz, hll, hcr⟩ := hrel
            obtain ⟨A2, e2, rfl, -⟩ := hL.form
            have HL := hide hL
            have HC2 := hide hcr
            have k2 := hcr.b.c2
            have k3 := hcr.b.c3
            have q2 := hcr.b.fz 2
            have q3 := hcr.b.fz 3
            have hbr0 := hcr.b.br0
            dsimp only at k2 k3
            have hbr := Nat.lt_of_lt_of_le hbc hsz
            clear hL hcr c0 c1 c2 c3 c4 z1 z2 z3 z4
            by_cases hjk : j < xs.length
            · have hjI : (j : Int) < xs.length := by omega
              go_upto_region 11 with fail
              refine wp_region_any (by kernel_rfl) ?_
              change wpAny _ _ _ _ _ _ _ (World.drew _)
              refine wpAny_take (i := 0) (v := ?_) rfl (by kernel_rfl) (by kernel_rfl) (by kernel_rfl) (by first | exact fun _ _ _ h => h | (rintro _ _ _ ⟨h, _⟩; cases h)) (Or.inl ⟨by rfl, ?hy0⟩) ?_
              case hy0 => intro w; go_simp; with_reducible rfl
              simp only [Act.put, List.getElem_toArray, List.getElem_cons_zero, List.setIfInBounds_toArray, List.set_cons_succ, List.set_cons_zero]
              refine wpAny_take (i := 2) (v := ?_) rfl (by kernel_rfl) (by kernel_rfl) (by kernel_rfl) (by first | exact fun _ _ _ h => h | (rintro _ _ _ ⟨h, _⟩; cases h)) (Or.inl ⟨by rfl, ?hy2⟩) ?_
              case hy2 => intro w; go_simp; with_reducible rfl
              simp only [Act.put, List.getElem_toArray, List.getElem_cons_zero, List.getElem_cons_succ, List.setIfInBounds_toArray, List.set_cons_succ, List.set_cons_zero]
              refine wpAny_flt 1 6 [3, 4, 5] [7, 8] (.slice A2 j e2) (fun w => w.cell? ⟨bc, 2, none⟩ = some (.slice A2 j e2)) rfl (by kernel_rfl) rfl (fun _ _ _ h => h) k2 (And.intro (by rfl) ?hys) ?_
              case hys => intro w' hw'; have hk' : w'.cell? ⟨bc, 2, none⟩ = some (.slice A2 j e2) := hw'; go_simp; all_goals exact rfl
              simp only [nths, nth1, Act.put, List.setIfInBounds_toArray, List.set_cons_succ, List.set_cons_zero]
              refine wpSeqC_cons fun K hK => ?_
              go_simp
              refine hK _ _ ?_ ?_
              · show World.cell? (World.alloc _ _) _ = _
                exact (((Ext.refl wr).drew.alloc _).cells _ _ hbr).trans k2
              clear hK K
              refine wpSeqC_cons fun K hK => ?_
              go_simp
              refine (one_any w0 br (N + 6 + j) (-3) 2 wr.heap.size 6 6 _ (by omega) (by omega) (by omega) (HC2.out.b.rd.grow (((Ext.refl wr).alloc _).drew)) (by simp [World.drew]) (by omega) (newL12 wr 3 [1, 1, -1, 2, -3, 0] (by intro x hx; simp at hx; omega)) (Nat.le_refl _)).mono ?_
              rintro e W5 ⟨z, zz0, zz1, rfl, hR5, hK5⟩
              have hK5 : Keep (fun k => k ≠ br) wr W5 := ((((Ext.refl wr).alloc _).drew).keep _).trans hK5
              have hbcbr : bc ≠ br := by omega
              have h5 : W5.cell? ⟨bc, 2, none⟩ = some (.slice A2 j e2) := (hK5.cell (p := ⟨bc, 2, none⟩) hbr hbcbr).trans k2
              have q5 : W5.frozen? ⟨bc, 2, none⟩ = false := (hK5.frz (p := ⟨bc, 2, none⟩) hbr hbcbr).trans q2
              have hs5 := hK5.size
              have HC5 := hide (HC2.out.keep hR5 hK5)
              have HL5 := hide (HL.out.keep hK5 (fun k hk => by omega))
              refine hK _ _ h5 ?_
              clear hK K hR5 hK5
              refine wpSeqC_cons fun K hK => ?_
              go_simp
              refine hK _ _ ?_ ?_
              · show World.cell? (World.alloc _ _) _ = _
                exact (((Ext.refl W5).alloc _).cells _ _ (by omega)).trans h5
              clear hK K
              refine wpSeqC_nil ?_
              refine wpList_appLN _ rfl _ _ rfl wc.heap.size (.slice A2 j e2) j (-3) 2 z W5.heap.size 1 rfl rfl (HL5.out.ext ((Ext.refl _).alloc _)) (World.cell?_alloc_at _ _ _ _ rfl) (by omega) (by omega) (by simp; omega) ?_
              intro v' W6 hL6 hb6
              have hb6 := Below.keep12 hb6
              have h6 : W6.cell? ⟨bc, 2, none⟩ = some (.slice A2 j e2) := (hb6.cell (p := ⟨bc, 2, none⟩) (by simp; omega) hbc).trans ((((Ext.refl W5).alloc _).cells _ _ (by omega)).trans h5)
              have q6 : W6.frozen? ⟨bc, 2, none⟩ = false := (hb6.frz (p := ⟨bc, 2, none⟩) (by simp; omega) hbc).trans ((((Ext.refl W5).alloc _).frz _ _ (by omega)).trans q5)
              have HL6 := hide hL6
              obtain ⟨g6, cap6, rfl, -, -, -⟩ := hL6.form
              have hl6 : bc < W6.heap.size := Nat.lt_of_lt_of_le (by simp; omega) hb6.size
              have HB6 := hide hb6
              clear hL6 hb6
              go_wp2_with fail
              go_roundw
              case rel =>
                obtain ⟨ys, y1, y2, -⟩ := LN.iv (.inr HL6.out) (by omega) (by omega) (by omega)
                have hset := (Keep.refl (fun k => k ≠ bc) W6).set (p := ⟨bc, 2, none⟩) (fun _ hh => hh rfl) (.slice (some ⟨g6, 0, none⟩) (j + 1) cap6)
                have hs6 := HB6.out.size
                rw [World.size_alloc] at hs6
                exact ⟨j + 1, _, ys, by go_num, by omega, .inr (HL6.out.keep hset (fun k hk => by omega)), Nat.le_trans (by omega) hset.size, by omega, ((HC5.out.grow ((Ext.refl _).alloc _)).mono (by omega)).far2 HB6.out hbc HV.out rfl y2⟩
              case measure => simp [intOf]; omega
            · obtain rfl : j = xs.length := by omega
              have hjI : ¬ ((xs.length : Int) < xs.length) := by omega
              go_wp2_with fail
              refine (pick_any w0 br _ 14 _ (by omega) (by omega) ?_ HC2.out.b.rd).mono ?_
              · omega
              rintro e W5 ⟨z, zz0, zz1, rfl, hR5, hK5⟩
              have hzw : IntKind.i64.wrap (z - 4) = z - 4 := IntWalk.i64_in _ (by omega)
              have hbcbr : bc ≠ br := by omega
              have h5 := (hK5.cell (p := ⟨bc, 3, none⟩) hbr hbcbr).trans k3
              have q5 := (hK5.frz (p := ⟨bc, 3, none⟩) hbr hbcbr).trans q3
              have hs5 := hK5.size
              have hl5 := Nat.lt_of_lt_of_le hbr hs5
              have HC5 := hide (HC2.out.keep hR5 hK5)
              clear hR5 hK5
              go_wp2_with fail
              go_meet
              refine ⟨rfl, _, _, _, _, (HC5.out.mono (by omega)).set3 _, ?_, ?_⟩
              all_goals (first | omega | (dsimp only; omega) | simp)
        · have hn2 : ¬ n < 2 := fun h => (hy24 h).1 rfl
          go_wp2_with fail
          have hsv := someVars_any w0 br (N + 6) n 2 _ hn1 hn4 (by omega) (by omega) (by omega) HCR.out.b.rd
          refine hsv.mono ?_
          clear hsv
          rintro e W4 ⟨v4, rfl, hL4, hR4, hK4⟩
          rw [if_pos (by omega : 2 ≤ n)] at hL4
          obtain ⟨g, cap, rfl, hg, hgl, hcap⟩ := hL4.form
          obtain ⟨xs4, hx4l, hxv4, -⟩ := LN.iv (.inr hL4) (by omega) (by omega) (by omega)
          have hs4 := hK4.size
          have hbcbr : bc ≠ br := by have := HCR.out.b.br0; omega
          have t1 := (hK4.cell (p := ⟨bc, 1, none⟩) hbc hbcbr).trans c1
          have p1 := (hK4.frz (p := ⟨bc, 1, none⟩) hbc hbcbr).trans z1
          have hl4 := Nat.lt_of_lt_of_le hbc hs4
          have HC4 := hide ((HCR.out.keep hR4 hK4).set1 (hxv4.mono (fun k hk => ⟨by omega, by omega⟩)) (by omega))
          clear hR4 hK4 hL4 hxv4 c0 c1 c2 c3 c4 z1 z2 z3 z4
          go_wp2_with fail
          refine (pick_any w0 br _ 5 _ (by omega) (by omega) ?_ HC4.out.b.rd).mono ?_
          · omega
          rintro e W5 ⟨z, zz0, zz1, rfl, hR5, hK5⟩
          have hzw : IntKind.i64.wrap (z - 2) = z - 2 := IntWalk.i64_in _ (by omega)
          have HC5 := hide (HC4.out.keep hR5 hK5)
          clear hR5 hK5 t1 p1
          have hl5 := HC5.out.b.b1
          have t0 := HC5.out.b.c0
          have t1 := HC5.out.b.c1
          have t2 := HC5.out.b.c2
          have t3 := HC5.out.b.c3
          have t4 := HC5.out.b.c4
          have p1 := HC5.out.b.fz 1
          have p2 := HC5.out.b.fz 2
          have p3 := HC5.out.b.fz 3
          have p4 := HC5.out.b.fz 4
          dsimp only at t0 t1 t2 t3 t4
          go_wp2_with fail
          go_meet
          refine ⟨rfl, _, _, _, _, (HC5.out.mono (by omega)).one2 (z - 2) (by omega), ?_, ?_⟩
          all_goals (first | omega | (dsimp only; omega) | simp)
        · go_wp2_with fail
          go_meet
          refine ⟨rfl, _, _, _, _, HCR.out.mono (by omega), ?_, ?_⟩
          all_goals (first | omega | (dsimp only; omega) | simp)
        · have hn2 : ¬ n < 2 := fun h => (hy24 h).2 rfl
          go_wp2_with fail
          have hsv := someVars_any w0 br (N + 6) n 2 _ hn1 hn4 (by omega) (by omega) (by omega) HCR.out.b.rd
          refine hsv.mono ?_
          clear hsv
          rintro e W4 ⟨v4, rfl, hL4, hR4, hK4⟩
          rw [if_pos (by omega : 2 ≤ n)] at hL4
          obtain ⟨g, cap, rfl, hg, hgl, hcap⟩ := hL4.form
          obtain ⟨xs4, hx4l, hxv4, -⟩ := LN.iv (.inr hL4) (by omega) (by omega) (by omega)
          have hs4 := hK4.size
          have hbcbr : bc ≠ br := by have := HCR.out.b.br0; omega
          have t1 := (hK4.cell (p := ⟨bc, 1, none⟩) hbc hbcbr).trans c1
          have p1 := (hK4.frz (p := ⟨bc, 1, none⟩) hbc hbcbr).trans z1
          have hl4 := Nat.lt_of_lt_of_le hbc hs4
          have HC4 := hide ((HCR.out.keep hR4 hK4).set1 (hxv4.mono (fun k hk => ⟨by omega, by omega⟩)) (by omega))
          clear hR4 hK4 hL4 hxv4 c0 c1 c2 c3 c4 z1 z2 z3 z4
          go_wp2_with fail
          refine (pick_any w0 br _ 6 _ (by omega) (by omega) ?_ HC4.out.b.rd).mono ?_
          · omega
          rintro e W5 ⟨z, zz0, zz1, rfl, hR5, hK5⟩
          have HC5 := hide (HC4.out.keep hR5 hK5)
          clear hR5 hK5 t1 p1
          obtain ⟨z, rfl⟩ : ∃ k : Nat, z = k := ⟨z.toNat, by omega⟩
          have hzw : IntKind.i64.wrap (1 + (z : Int)) = 1 + (z : Int) := IntWalk.i64_in _ (by omega)
          go_wp2_with fail
          have hrr := randomRow_any w0 br (N + 6 + n + 1) (z + 1) _ (by omega) (by omega) HC5.out.b.rd
          rw [show ((z + 1 : Nat) : Int) = 1 + (z : Int) by omega] at hrr
          refine hrr.mono ?_
          clear hrr
          rintro e W6 ⟨v6, rfl, hL6, hR6, hK6⟩
          obtain ⟨g6, cap6, rfl, hg6, hgl6, hcap6⟩ := hL6.form
          obtain ⟨xs6, hx6l, hxv6, -⟩ := LN.iv (.inr hL6) (by omega) (by omega) (by omega)
          have hb5 := HC5.out.b.b1
          have HC6 := hide (HC5.out.keep hR6 hK6)
          clear hR6 hK6 hL6
          have hl6 := HC6.out.b.b1
          have t0 := HC6.out.b.c0
          have t1 := HC6.out.b.c1
          have t2 := HC6.out.b.c2
          have t3 := HC6.out.b.c3
          have t4 := HC6.out.b.c4
          have p1 := HC6.out.b.fz 1
          have p2 := HC6.out.b.fz 2
          have p3 := HC6.out.b.fz 3
          have p4 := HC6.out.b.fz 4
          dsimp only at t0 t1 t2 t3 t4
          go_wp2_with fail
          go_meet
          refine ⟨rfl, _, _, _, _, (HC6.out.mono (by omega)).set2 (hxv6.mono (fun k hk => ⟨by omega, by omega⟩)), ?_, ?_⟩
          all_goals (first | omega | (dsimp only; omega) | simp)
        · go_wp2_with fail
          refine (pick_any w0 br _ 6 _ (by omega) (by omega) ?_ HCR.out.b.rd).mono ?_
          · omega
          rintro e W4 ⟨z, zz0, zz1, rfl, hR4, hK4⟩
          have HC4 := hide (HCR.out.keep hR4 hK4)
          have hs4 := hK4.size
          clear hR4 hK4 c0 c1 c2 c3 c4 z1 z2 z3 z4
          obtain ⟨z, rfl⟩ : ∃ k : Nat, z = k := ⟨z.toNat, by omega⟩
          have hzw : IntKind.i64.wrap (1 + (z : Int)) = 1 + (z : Int) := IntWalk.i64_in _ (by omega)
          go_wp2_with fail
          go_loopw [8] (fun i wr => ∃ (j : Nat) (vr : Value) (rs : List (List Int)), i = .int .i64 j ∧ rs.length + j ≤ 6 ∧ RV (fun k => wc.heap.size ≤ k) wr vr rs ∧ wc.heap.size ≤ wr.heap.size ∧ CR w0 br W.heap.size bc (N + 7 + 4 * rs.length) Wb wr ⟨5, xs, [], 0, rs⟩ (.slice Av xs.length cv) (.slice none 0 0) vr) (fun i _ => (intOf i).toNat)
          case atStart => exact ⟨z + 1, _, [], by go_num, by simp; omega, RV.nil_ _ _, hs4, HC4.out⟩
          case round =>
            obtain ⟨j, vr, rs, rfl, hj, hL, hsz, hcr⟩ := hrel
            obtain ⟨A2, e2, rfl, -⟩ := hL.1.form
            have HL := hide hL
            have HC2 := hide hcr
            have k4 := hcr.b.c4
            have q4 := hcr.b.fz 4
            have hbr0 := hcr.b.br0
            have hbr := Nat.lt_of_lt_of_le hbc hsz
            clear hL hcr
            by_cases hj0 : 0 < j
            · have hjI : 0 < (j : Int) := by omega
              have hjw : IntKind.i64.wrap ((j : Int) - 1) = (j : Int) - 1 := IntWalk.i64_in _ (by omega)
              go_upto_region 23 with fail
              refine wp_region_any (by kernel_rfl) ?_
              change wpAny _ _ _ _ _ _ _ (World.drew _)
              refine wpAny_take (i := 0) (v := ?_) rfl (by kernel_rfl) (by kernel_rfl) (by kernel_rfl) (by first | exact fun _ _ _ h => h | (rintro _ _ _ ⟨h, _⟩; cases h)) (Or.inl ⟨by rfl, ?hy0⟩) ?_
              case hy0 => intro w; go_simp; with_reducible rfl
              simp only [Act.put, List.getElem_toArray, List.getElem_cons_zero, List.setIfInBounds_toArray, List.set_cons_succ, List.set_cons_zero]
              refine wpAny_take (i := 2) (v := ?_) rfl (by kernel_rfl) (by kernel_rfl) (by kernel_rfl) (by first | exact fun _ _ _ h => h | (rintro _ _ _ ⟨h, _⟩; cases h)) (Or.inl ⟨by rfl, ?hy2⟩) ?_
              case hy2 => intro w; go_simp; with_reducible rfl
              simp only [Act.put, List.getElem_toArray, List.getElem_cons_zero, List.getElem_cons_succ, List.setIfInBounds_toArray, List.set_cons_succ, List.set_cons_zero]
              refine wpAny_take (i := 3) (v := ?_) rfl (by kernel_rfl) (by kernel_rfl) (by kernel_rfl) (by first | exact fun _ _ _ h => h | (rintro _ _ _ ⟨h, _⟩; cases h)) (Or.inl ⟨by rfl, ?hy3⟩) ?_
              case hy3 => intro w; go_simp; with_reducible rfl
              simp only [Act.put, List.getElem_toArray, List.getElem_cons_zero, List.getElem_cons_succ, List.setIfInBounds_toArray, List.set_cons_succ, List.set_cons_zero]
              refine wpAny_flt 1 6 [4, 5] [7, 8] (.slice A2 rs.length e2) (fun w => w.cell? ⟨bc, 4, none⟩ = some (.slice A2 rs.length e2)) rfl (by kernel_rfl) rfl (fun _ _ _ h => h) k4 (And.intro (by rfl) ?hys) ?_
              case hys => intro w' hw'; have hk' : w'.cell? ⟨bc, 4, none⟩ = some (.slice A2 rs.length e2) := hw'; go_simp; all_goals exact rfl
              simp only [nths, nth1, Act.put, List.setIfInBounds_toArray, List.set_cons_succ, List.set_cons_zero]
              refine wpSeqC_cons fun K hK => ?_
              go_simp
              refine (randomRow_any w0 br _ xs.length _ (by omega) ?_ (HC2.out.b.rd.grow ((Ext.refl wr).drew))).mono ?_
              · omega
              rintro e W5 ⟨v5, rfl, hL5, hR5, hK5⟩
              have hK5 : Keep (fun k => k ≠ br) wr W5 := (((Ext.refl wr).drew).keep _).trans hK5
              have hbcbr : bc ≠ br := by omega
              have h5 : W5.cell? ⟨bc, 4, none⟩ = some (.slice A2 rs.length e2) := (hK5.cell (p := ⟨bc, 4, none⟩) hbr hbcbr).trans k4
              have q5 : W5.frozen? ⟨bc, 4, none⟩ = false := (hK5.frz (p := ⟨bc, 4, none⟩) hbr hbcbr).trans q4
              have hs5 := hK5.size
              have HC5 := hide (HC2.out.keep hR5 hK5)
              have HL5 := hide (HL.out.keep hK5 (fun k hk => by omega))
              obtain ⟨g5, cap5, rfl, hg5, hgl5, hcap5⟩ := hL5.form
              obtain ⟨xs5, hx5l, hrow5, hx5b, -⟩ := hL5.rowW
              have HROW5 := hide hrow5
              have HXB5 := hide hx5b
              refine hK _ _ h5 ?_
              clear hK K hR5 hK5 hL5 hrow5 hx5b
              refine wpSeqC_cons fun K hK => ?_
              go_simp
              refine hK _ _ ?_ ?_
              · show World.cell? (World.alloc _ _) _ = _
                exact (((Ext.refl W5).alloc _).cells _ _ (by omega)).trans h5
              clear hK K
              refine wpSeqC_nil ?_
              refine wpList_appRS _ rfl _ _ rfl (fun k => wc.heap.size ≤ k) (.slice A2 rs.length e2) rs xs5 (.slice (some ⟨g5, 0, none⟩) xs.length cap5) W5.heap.size 1 rfl rfl (HL5.out.1.ext ((Ext.refl _).alloc _)) (World.cell?_alloc_at _ _ _ _ rfl) (HROW5.out.keep9 (((Ext.refl W5).alloc _).keep (fun _ => True)) (fun _ _ => trivial)) ?_ (by omega) ?_ ?_
              · intro g hg
                have hg : some g5 = some g := hg
                injection hg with hg
                subst hg
                exact Nat.le_trans hsz (by simpa using hg5)
              · intro k hk
                rw [World.size_alloc] at hk
                show wc.heap.size ≤ k
                omega
              intro v' W6 hA6 hgr6 hown6
              have hb6 : Keep (fun k => k < wc.heap.size) (W5.alloc (.cells #[.slice (some ⟨g5, 0, none⟩) xs.length cap5] 23)) W6 := (Keep.of_grown hgr6).mono (fun k _ hk e => by have h1 := (HL5.out.1.blk9 k e).1; have h1 : wc.heap.size ≤ k := h1; omega)
              have h6 : W6.cell? ⟨bc, 4, none⟩ = some (.slice A2 rs.length e2) := (hb6.cell (p := ⟨bc, 4, none⟩) (by simp; omega) hbc).trans ((((Ext.refl W5).alloc _).cells _ _ (by omega)).trans h5)
              have q6 : W6.frozen? ⟨bc, 4, none⟩ = false := (hb6.frz (p := ⟨bc, 4, none⟩) (by simp; omega) hbc).trans ((((Ext.refl W5).alloc _).frz _ _ (by omega)).trans q5)
              have HL6 := hide (HL5.out.snoc hA6 (by omega) (by omega) (fun t ht => by have := HXB5.out t (by omega); omega))
              obtain ⟨g6, cap6, hv6, -⟩ := hA6.form
              rw [show (rs ++ [xs5]).length = rs.length + 1 by simp] at hv6
              subst hv6
              have hl6 : bc < W6.heap.size := Nat.lt_of_lt_of_le (by simp; omega) hb6.size
              have HB6 := hide hb6
              clear hb6 hA6 hgr6 hown6
              go_wp2_with fail
              go_roundw
              case rel =>
                have hset := (Keep.refl (fun k => k ≠ bc) W6).set (p := ⟨bc, 4, none⟩) (fun _ hh => hh rfl) (.slice g6 (rs.length + 1) cap6)
                have hs6 := HB6.out.size
                rw [World.size_alloc] at hs6
                refine ⟨j - 1, _, rs ++ [xs5], by go_num, by simp; omega, HL6.out.keep hset (fun k hk => by omega), Nat.le_trans (by omega) hset.size, CR.mono (((HC5.out.grow ((Ext.refl _).alloc _))).far4 HB6.out hbc HV.out rfl HL6.out) (by simp; omega)⟩
              case measure => simp [intOf]; omega
            · obtain rfl : j = 0 := by omega
              go_wp2_with fail
              go_meet
              refine ⟨rfl, _, _, _, _, HC2.out.mono (by omega), ?_, ?_⟩
              all_goals (first | omega | (dsimp only; omega) | simp)
        · go_wp2_with fail
          refine (pick_any w0 br _ 6 _ (by omega) (by omega) ?_ HCR.out.b.rd).mono ?_
          · omega
          rintro e W5 ⟨z, zz0, zz1, rfl, hR5, hK5⟩
          have HC5 := hide (HCR.out.keep hR5 hK5)
          clear hR5 hK5 c0 c1 c2 c3 c4 z1 z2 z3 z4
          have hl5 := HC5.out.b.b1
          have t0 := HC5.out.b.c0
          have t1 := HC5.out.b.c1
          have t2 := HC5.out.b.c2
          have t3 := HC5.out.b.c3
          have t4 := HC5.out.b.c4
          have p1 := HC5.out.b.fz 1
          have p2 := HC5.out.b.fz 2
          have p3 := HC5.out.b.fz 3
          have p4 := HC5.out.b.fz 4
          dsimp only at t0 t1 t2 t3 t4
          have HC6 := hide (HC5.out.one2 z (by omega))
          go_wp2_with fail
          refine (pick_any w0 br _ 4 _ (by omega) (by omega) ?_ HC6.out.b.rd).mono ?_
          · omega
          rintro e W7 ⟨y7, yy0, yy1, rfl, hR7, hK7⟩
          have HC7 := hide (HC6.out.keep hR7 hK7)
          clear hR7 hK7 t0 t1 t2 t3 t4 p1 p2 p3 p4
          have hl7 := HC7.out.b.b1
          have t0 := HC7.out.b.c0
          have t1 := HC7.out.b.c1
          have t2 := HC7.out.b.c2
          have t3 := HC7.out.b.c3
          have t4 := HC7.out.b.c4
          have p1 := HC7.out.b.fz 1
          have p2 := HC7.out.b.fz 2
          have p3 := HC7.out.b.fz 3
          have p4 := HC7.out.b.fz 4
          dsimp only at t0 t1 t2 t3 t4
          go_wp2_with fail
          go_meet
          refine ⟨rfl, _, _, _, _, (HC7.out.mono (by omega)).set3 _, ?_, ?_⟩
          all_goals (first | omega | (dsimp only; omega) | simp)
        · have hmul : IntKind.i64.wrap (2 * (xs.length : Int)) = 2 * (xs.length : Int) := IntWalk.i64_in _ (by omega)
          go_wp2_with fail
          go_loopw [9] (fun i wr => ∃ (j : Nat) (va : Value) (ls : List Int), i = .int .i64 j ∧ j ≤ 2 * xs.length ∧ LN wc.heap.size wr va j 0 3 ∧ wc.heap.size ≤ wr.heap.size ∧ ls.length ≤ j ∧ CR w0 br W.heap.size bc (N + 6 + j) Wb wr ⟨7, xs, ls, 0, []⟩ (.slice Av xs.length cv) va (.slice none 0 0)) (fun i _ => 2 * xs.length - (intOf i).toNat)
          case atStart => exact ⟨0, _, [], rfl, Nat.zero_le _, .inl ⟨rfl, rfl⟩, Nat.le_refl _, Nat.le_refl _, HCR.out⟩
          case round =>
            obtain ⟨j, va, ls, rfl, hj, hL, hsz, hll, hcr⟩ := hrel
            obtain ⟨A2, e2, rfl, -⟩ := hL.form
            have HL := hide hL
            have HC2 := hide hcr
            have k2 := hcr.b.c2
            have k3 := hcr.b.c3
            have q2 := hcr.b.fz 2
            have q3 := hcr.b.fz 3
            have hbr0 := hcr.b.br0
            dsimp only at k2 k3
            have hbr := Nat.lt_of_lt_of_le hbc hsz
            clear hL hcr c0 c1 c2 c3 c4 z1 z2 z3 z4
            by_cases hjk : j < 2 * xs.length
            · have hjI : (j : Int) < 2 * (xs.length : Int) := by omega
              go_upto_region 31 with fail
              refine wp_region_any (by kernel_rfl) ?_
              change wpAny _ _ _ _ _ _ _ (World.drew _)
              refine wpAny_take (i := 0) (v := ?_) rfl (by kernel_rfl) (by kernel_rfl) (by kernel_rfl) (by first | exact fun _ _ _ h => h | (rintro _ _ _ ⟨h, _⟩; cases h)) (Or.inl ⟨by rfl, ?hy0⟩) ?_
              case hy0 => intro w; go_simp; with_reducible rfl
              simp only [Act.put, List.getElem_toArray, List.getElem_cons_zero, List.setIfInBounds_toArray, List.set_cons_succ, List.set_cons_zero]
              refine wpAny_take (i := 2) (v := ?_) rfl (by kernel_rfl) (by kernel_rfl) (by kernel_rfl) (by first | exact fun _ _ _ h => h | (rintro _ _ _ ⟨h, _⟩; cases h)) (Or.inl ⟨by rfl, ?hy2⟩) ?_
              case hy2 => intro w; go_simp; with_reducible rfl
              simp only [Act.put, List.getElem_toArray, List.getElem_cons_zero, List.getElem_cons_succ, List.setIfInBounds_toArray, List.set_cons_succ, List.set_cons_zero]
              refine wpAny_flt 1 5 [3, 4] [6, 7] (.slice A2 j e2) (fun w => w.cell? ⟨bc, 2, none⟩ = some (.slice A2 j e2)) rfl (by kernel_rfl) rfl (fun _ _ _ h => h) k2 (And.intro (by rfl) ?hys) ?_
              case hys => intro w' hw'; have hk' : w'.cell? ⟨bc, 2, none⟩ = some (.slice A2 j e2) := hw'; go_simp; all_goals exact rfl
              simp only [nths, nth1, Act.put, List.setIfInBounds_toArray, List.set_cons_succ, List.set_cons_zero]
              refine wpSeqC_cons fun K hK => ?_
              go_simp
              refine (pick_any w0 br _ 4 _ (by omega) (by omega) ?_ (HC2.out.b.rd.grow ((Ext.refl wr).drew))).mono ?_
              · omega
              rintro e W5 ⟨z, zz0, zz1, rfl, hR5, hK5⟩
              have hK5 : Keep (fun k => k ≠ br) wr W5 := (((Ext.refl wr).drew).keep _).trans hK5
              have hbcbr : bc ≠ br := by omega
              have h5 : W5.cell? ⟨bc, 2, none⟩ = some (.slice A2 j e2) := (hK5.cell (p := ⟨bc, 2, none⟩) hbr hbcbr).trans k2
              have q5 : W5.frozen? ⟨bc, 2, none⟩ = false := (hK5.frz (p := ⟨bc, 2, none⟩) hbr hbcbr).trans q2
              have hs5 := hK5.size
              have HC5 := hide (HC2.out.keep hR5 hK5)
              have HL5 := hide (HL.out.keep hK5 (fun k hk => by omega))
              refine hK _ _ h5 ?_
              clear hK K hR5 hK5
              refine wpSeqC_cons fun K hK => ?_
              go_simp
              refine hK _ _ ?_ ?_
              · show World.cell? (World.alloc _ _) _ = _
                exact (((Ext.refl W5).alloc _).cells _ _ (by omega)).trans h5
              clear hK K
              refine wpSeqC_nil ?_
              refine wpList_appLN _ rfl _ _ rfl wc.heap.size (.slice A2 j e2) j 0 3 z W5.heap.size 1 rfl rfl (HL5.out.ext ((Ext.refl _).alloc _)) (World.cell?_alloc_at _ _ _ _ rfl) (by omega) (by omega) (by simp; omega) ?_
              intro v' W6 hL6 hb6
              have hb6 := Below.keep12 hb6
              have h6 : W6.cell? ⟨bc, 2, none⟩ = some (.slice A2 j e2) := (hb6.cell (p := ⟨bc, 2, none⟩) (by simp; omega) hbc).trans ((((Ext.refl W5).alloc _).cells _ _ (by omega)).trans h5)
              have q6 : W6.frozen? ⟨bc, 2, none⟩ = false := (hb6.frz (p := ⟨bc, 2, none⟩) (by simp; omega) hbc).trans ((((Ext.refl W5).alloc _).frz _ _ (by omega)).trans q5)
              have HL6 := hide hL6
              obtain ⟨g6, cap6, rfl, -, -, -⟩ := hL6.form
              have hl6 : bc < W6.heap.size := Nat.lt_of_lt_of_le (by simp; omega) hb6.size
              have HB6 := hide hb6
              clear hL6 hb6
              go_wp2_with fail
              go_roundw
              case rel =>
                obtain ⟨ys, y1, y2, -⟩ := LN.iv (.inr HL6.out) (by omega) (by omega) (by omega)
                have hset := (Keep.refl (fun k => k ≠ bc) W6).set (p := ⟨bc, 2, none⟩) (fun _ hh => hh rfl) (.slice (some ⟨g6, 0, none⟩) (j + 1) cap6)
                have hs6 := HB6.out.size
                rw [World.size_alloc] at hs6
                exact ⟨j + 1, _, ys, by go_num, by omega, .inr (HL6.out.keep hset (fun k hk => by omega)), Nat.le_trans (by omega) hset.size, by omega, ((HC5.out.grow ((Ext.refl _).alloc _)).mono (by omega)).far2 HB6.out hbc HV.out rfl y2⟩
              case measure => simp [intOf]; omega
            · obtain rfl : j = 2 * xs.length := by omega
              have hjI : ¬ (((2 * xs.length : Nat) : Int) < 2 * (xs.length : Int)) := by omega
              go_wp2_with fail
              refine (pick_any w0 br _ 4 _ (by omega) (by omega) ?_ HC2.out.b.rd).mono ?_
              · omega
              rintro e W5 ⟨z, zz0, zz1, rfl, hR5, hK5⟩
              have hzw : IntKind.i64.wrap (1 + z) = 1 + z := IntWalk.i64_in _ (by omega)
              have hbcbr : bc ≠ br := by omega
              have h5 := (hK5.cell (p := ⟨bc, 3, none⟩) hbr hbcbr).trans k3
              have q5 := (hK5.frz (p := ⟨bc, 3, none⟩) hbr hbcbr).trans q3
              have hs5 := hK5.size
              have hl5 := Nat.lt_of_lt_of_le hbr hs5
              have HC5 := hide (HC2.out.keep hR5 hK5)
              clear hR5 hK5
              go_wp2_with fail
              go_meet
              refine ⟨rfl, _, _, _, _, (HC5.out.mono (by omega)).set3 _, ?_, ?_⟩
              all_goals (first | omega | (dsimp only; omega) | simp)
        · go_wp2_with fail
          refine (pick_any w0 br _ 3 _ (by omega) (by omega) ?_ HCR.out.b.rd).mono ?_
          · omega
          rintro e W4 ⟨z, zz0, zz1, rfl, hR4, hK4⟩
          have HC4 := hide (HCR.out.keep hR4 hK4)
          have hs4 := hK4.size
          clear hR4 hK4 c0 c1 c2 c3 c4 z1 z2 z3 z4
          obtain ⟨z, rfl⟩ : ∃ k : Nat, z = k := ⟨z.toNat, by omega⟩
          have hzw : IntKind.i64.wrap (1 + (z : Int)) = 1 + (z : Int) := IntWalk.i64_in _ (by omega)
          go_wp2_with fail
          have hra := randomAutomaton_any w0 br (N + 6 + 1) (z + 1) _ (by omega) (by omega) (by omega) HC4.out.b.rd
          rw [show ((z + 1 : Nat) : Int) = 1 + (z : Int) by omega] at hra
          refine hra.mono ?_
          clear hra
          rintro e W5 ⟨v5, rs, rfl, hrl, hA5, hr6, hR5, hK5⟩
          have hb4 := HC4.out.b.b1
          have HC5 := hide (HC4.out.keep hR5 hK5)
          obtain ⟨A5, e5, hv5, -⟩ := hA5.form
          rw [hrl] at hv5
          subst hv5
          have hrv : RV (fun k => Wb.heap.size ≤ k ∧ k ≠ bc) W5 (.slice A5 (z + 1) e5) rs := ⟨hA5.mono9 (fun k hk => ⟨by omega, by omega⟩), by omega, fun i hi => by
            obtain ⟨h1, h2⟩ := hr6 i hi
            exact ⟨by omega, fun j hj => by have := h2 j (by omega); omega⟩⟩
          clear hR5 hK5
          have hl5 := HC5.out.b.b1
          have t0 := HC5.out.b.c0
          have t1 := HC5.out.b.c1
          have t2 := HC5.out.b.c2
          have t3 := HC5.out.b.c3
          have t4 := HC5.out.b.c4
          have p1 := HC5.out.b.fz 1
          have p2 := HC5.out.b.fz 2
          have p3 := HC5.out.b.fz 3
          have p4 := HC5.out.b.fz 4
          dsimp only at t0 t1 t2 t3 t4
          have HC6 := hide (HC5.out.set4 hrv)
          have hzl : IntKind.i64.wrap ((z + 1 : Nat) - 1 : Int) = ((z + 1 : Nat) : Int) - 1 := IntWalk.i64_in _ (by omega)
          go_upto_region 35 with fail
          have hl6 := HC6.out.b.b1
          have s2 := HC6.out.b.c2
          have s4 := HC6.out.b.c4
          have s5 := HC6.out.b.fz 2
          have HC7 := hide ((HC6.out.mono (M := N + 100) (by omega)).one2 (((z + 1 : Nat) : Int) - 1) (by omega))
          generalize W5.setCell { block := bc, off := 4 } (Value.slice A5 (z + 1) e5) = W6 at *
          clear t0 t1 t2 t3 t4 p1 p2 p3 p4
          go_wp2_with fail
          go_meet
          have H7 := HC7.out
          rw [show ((z + 1 : Nat) : Int) - 1 = (z : Int) by omega] at H7
          refine ⟨rfl, _, _, _, _, H7, ?_, ?_⟩
          all_goals (first | omega | (dsimp only; omega) | simp)
        · go_wp2_with fail
          go_meet
          refine ⟨rfl, _, _, _, _, HCR.out.mono (by omega), ?_, ?_⟩
          all_goals (first | omega | (dsimp only; omega) | simp)
      case rest =>
        clear HCR c0 c1 c2 c3 c4 z1 z2 z3 z4 hbc hbb
        obtain ⟨rfl, c, vv, va, vr, hcr, hlen⟩ := hcut
        have hcb := hcr.b
        have hrb := hcr.r
        obtain ⟨A1, e1, hvv, -⟩ := hcb.iv.form
        obtain ⟨A2, e2, hva, -⟩ := hcb.ia.form
        obtain ⟨A3, e3, hvr, -⟩ := hcb.ir.1.form
        subst hvv hva hvr
        have c0 := hcb.c0
        have c1 := hcb.c1
        have c2 := hcb.c2
        have c3 := hcb.c3
        have c4 := hcb.c4
        have hbc := hcb.b1
        have HCB := hide hcb
        obtain ⟨hrb1, u0, u1, u2, u3, u4, r0, r1, r2, r3, r4, z0, z1, z2, z3, z4⟩ := hrb.five
        clear hcb hrb hcr
        go_wp2_with fail
        refine bodyPost_ret (v := .agg #[.int .i64 c.kk, .slice A1 c.vars.length e1, .slice A2 c.args.length e2, .int .i64 c.bound, .slice A3 c.rows.length e3]) (by simp only [results, Tryz.results54]; go_simp) rfl ?_
        exact HCB.out.done HXB.out HSB.out rfl (by (repeat refine Keep.set ?_ (fun _ hh => hh rfl) _); exact Keep.refl _ _) (by omega) (by omega) (by omega) hlen
end Go.Proofs.YtalgilgfoekioaaGreatDoor
