/- Draws of the generator: a list of constraints in the making. -/
import Derived.Test.YtalgilgfoekioaaGreatDoorDrwE
import Derived.Deep.CutBlock
import Derived.Deep.DeepCutAuto
import Derived.Test.YtalgilgfoekioaaGreatDoorFltZ
namespace Go.Proofs.YtalgilgfoekioaaGreatDoor
open Go.RowKit

theorem Tryz.infoCd : (Tryz.prog.info? 60).map (fun i => (i.zero, i.size, i.bytes)) = some (some (.agg #[.int .i64 0, .slice none 0 0, .slice none 0 0, .int .i64 0, .slice none 0 0]), 5, 88) := by kernel_rfl
/-- Block g holds constraints. -/
def HasC (w : World) (g : Nat) : Prop := ∃ cur, w.heap[g]? = some (.cells cur 60 (0, 0))
theorem RowW.notC {w : World} {v : Value} {xs : List Int} (h : RowW w v xs) {g : Nat} (hg : HasC w g) : v.ownBlock ≠ some g := by
  obtain ⟨b, cap, m, f, rfl, -, -, ⟨cur, k1, -⟩, -⟩ := h
  obtain ⟨cur', k2⟩ := hg
  intro e
  have e : some b = some g := e
  injection e with e
  subst e
  rw [k1] at k2
  injection k2 with k2
  injection k2 with _ k3
  cases k3
theorem IV.apart {S : Nat → Prop} {w : World} {v : Value} {xs : List Int} (h : IV S w v xs) {g : Nat} (hg : HasC w g) : IV (fun k => S k ∧ k ≠ g) w v xs := by
  refine ⟨h.1, fun b hb => ⟨h.2.1 b hb, ?_⟩, h.2.2⟩
  rintro rfl
  rcases h.1 with ⟨rfl, -⟩ | h1
  · cases hb
  · exact h1.notC hg hb
theorem RV.apart {S : Nat → Prop} {w : World} {v : Value} {rs : List (List Int)} (h : RV S w v rs) {g : Nat} (hg : HasC w g) : RV (fun k => S k ∧ k ≠ g) w v rs := by
  obtain ⟨⟨cells, h1, h2, h3⟩, h4⟩ := h
  refine ⟨⟨cells, h1, fun b hb => ⟨h2 b hb, ?_⟩, fun i hi => ?_⟩, h4⟩
  · rintro rfl
    obtain ⟨cur', k2⟩ := hg
    rcases h1.2 with ⟨e, -⟩ | ⟨g', cap, cur, e, -, k1, -⟩
    · rw [e] at hb; cases hb
    · rw [e] at hb
      have hb : some g' = some b := hb
      injection hb with hb
      subst hb
      rw [k1] at k2
      injection k2 with k2
      injection k2 with _ k3
      cases k3
  · obtain ⟨cv, q1, q2, q3⟩ := h3 i hi
    exact ⟨cv, q1, q2, fun b hb => ⟨q3 b hb, fun e => q2.notC hg (e ▸ hb)⟩⟩
/-- What five values read as. -/
def CV5 (L : Nat) (S : Nat → Prop) (w : World) (F : Nat → Option Value) (c : Con) : Prop :=
  ∃ vv va vr, F 0 = some (.int .i64 c.kk) ∧ F 1 = some vv ∧ F 2 = some va ∧ F 3 = some (.int .i64 c.bound) ∧ F 4 = some vr ∧ IV S w vv c.vars ∧ IV S w va c.args ∧ RV S w vr c.rows ∧ (0 < c.vars.length ∧ c.vars.length ≤ L ∧ c.args.length ≤ L)
theorem CV5.wide {L M : Nat} {S : Nat → Prop} {w : World} {F : Nat → Option Value} {c : Con} (h : CV5 L S w F c) (hL : L ≤ M) : CV5 M S w F c := by
  obtain ⟨vv, va, vr, e0, e1, e2, e3, e4, h1, h2, h3, h4⟩ := h
  exact ⟨vv, va, vr, e0, e1, e2, e3, e4, h1, h2, h3, by omega⟩
theorem CV5.keep {L : Nat} {S T : Nat → Prop} {w w' : World} {F : Nat → Option Value} {c : Con} (h : CV5 L S w F c) (hk : Keep T w w') (hS : ∀ k, S k → T k) : CV5 L S w' F c := by
  obtain ⟨vv, va, vr, e0, e1, e2, e3, e4, h1, h2, h3, h4⟩ := h
  exact ⟨vv, va, vr, e0, e1, e2, e3, e4, h1.keep hk hS, h2.keep hk hS, h3.keep hk hS, h4⟩
theorem CV5.mono {L : Nat} {S T : Nat → Prop} {w : World} {F : Nat → Option Value} {c : Con} (h : CV5 L S w F c) (hS : ∀ k, S k → T k) : CV5 L T w F c := by
  obtain ⟨vv, va, vr, e0, e1, e2, e3, e4, h1, h2, h3, h4⟩ := h
  exact ⟨vv, va, vr, e0, e1, e2, e3, e4, h1.mono hS, h2.mono hS, h3.mono hS, h4⟩
theorem CV5.apart {L : Nat} {S : Nat → Prop} {w : World} {F : Nat → Option Value} {c : Con} (h : CV5 L S w F c) {g : Nat} (hg : HasC w g) : CV5 L (fun k => S k ∧ k ≠ g) w F c := by
  obtain ⟨vv, va, vr, e0, e1, e2, e3, e4, h1, h2, h3, h4⟩ := h
  exact ⟨vv, va, vr, e0, e1, e2, e3, e4, h1.apart hg, h2.apart hg, h3.apart hg, h4⟩
theorem CV5.cast {L : Nat} {S : Nat → Prop} {w : World} {F G : Nat → Option Value} {c : Con} (h : CV5 L S w F c) (hFG : ∀ j, j < 5 → F j = G j) : CV5 L S w G c := by
  obtain ⟨vv, va, vr, e0, e1, e2, e3, e4, h⟩ := h
  exact ⟨vv, va, vr, (hFG 0 (by omega)).symm.trans e0, (hFG 1 (by omega)).symm.trans e1, (hFG 2 (by omega)).symm.trans e2, (hFG 3 (by omega)).symm.trans e3, (hFG 4 (by omega)).symm.trans e4, h⟩
/-- v is nil or a slice of the call's own whose cells read as the constraints cs; their lists lie in blocks that S names, v's own block is from base on. -/
def CA (L base : Nat) (S : Nat → Prop) (w : World) (v : Value) (cs : List Con) : Prop :=
  ∃ cells, w.ownsRow base 60 5 v cs.length cells ∧ ∀ i, i < cs.length → CV5 L S w (fun j => cells[i * 5 + j]?) (con0 cs i)
theorem CA.nil_ (L base : Nat) (S : Nat → Prop) (w : World) : CA L base S w (.slice none 0 0) [] := ⟨[], World.ownsRow_nil w base _ _, fun i hi => absurd hi (by simp)⟩
theorem CA.form {L base : Nat} {S : Nat → Prop} {w : World} {v : Value} {cs : List Con} (h : CA L base S w v cs) : ∃ A c, v = .slice A cs.length c ∧ cs.length ≤ c := by
  obtain ⟨cells, h, -⟩ := h
  rcases h.2 with ⟨h1, h2⟩ | ⟨g, cap, cur, h1, -, -, h2, -⟩
  · exact ⟨none, 0, by rw [h1, h2], by omega⟩
  · exact ⟨_, _, h1, h2⟩
theorem CA.keep {L base : Nat} {S T : Nat → Prop} {w w' : World} {v : Value} {cs : List Con} (h : CA L base S w v cs) (hk : Keep T w w') (hb : ∀ k, base ≤ k → T k) (hS : ∀ k, S k → T k) : CA L base S w' v cs := by
  obtain ⟨cells, h1, h2⟩ := h
  refine ⟨cells, ⟨h1.1, ?_⟩, fun i hi => (h2 i hi).keep hk hS⟩
  rcases h1.2 with hn | ⟨g, cap, cur, e, hbg, hgg, rest⟩
  · exact .inl hn
  · exact .inr ⟨g, cap, cur, e, hbg, (hk.block g (Array.getElem?_eq_some_iff.1 hgg).1 (hb g hbg)).trans hgg, rest⟩
theorem CA.wide {L M base : Nat} {S : Nat → Prop} {w : World} {v : Value} {cs : List Con} (h : CA L base S w v cs) (hL : L ≤ M) : CA M base S w v cs := by
  obtain ⟨cells, h1, h2⟩ := h
  exact ⟨cells, h1, fun i hi => (h2 i hi).wide hL⟩
theorem CA.ext {L base : Nat} {S : Nat → Prop} {w w' : World} {v : Value} {cs : List Con} (h : CA L base S w v cs) (hx : Ext w w') : CA L base S w' v cs := h.keep (hx.keep (fun _ => True)) (fun _ _ => trivial) (fun _ _ => trivial)
theorem IV.oneC {S : Nat → Prop} {w : World} {v : Value} {xs : List Int} (h : IV S w v xs) : v.oneCell' = true := by
  obtain ⟨A, c, rfl, -⟩ := h.form; rfl
theorem RV.oneC {S : Nat → Prop} {w : World} {v : Value} {rs : List (List Int)} (h : RV S w v rs) : v.oneCell' = true := by
  obtain ⟨A, c, rfl, -⟩ := h.1.form; rfl
/-- append of one constraint. -/
theorem run_appCA (L base : Nat) (S : Nat → Prop) (w : World) (ty : TypeId) (v : Value) (cs : List Con) (c : Con) (b cp : Nat)
    (hown : CA L base S w v cs) (hc : CV5 L S w (fun j => w.cell? ⟨b, j, none⟩) c) (hl : cs.length ≤ 1000000) (hb : base ≤ w.heap.size) :
    ∃ v' w', (Builtin.append_ #[24, 24] ty #[v, .slice (some ⟨b, 0, none⟩) 1 cp]).run Tryz.prog w = .ok v' w' ∧ CA L base S w' v' (cs ++ [c]) ∧ w.grownBy w' v.ownBlock ∧ (∀ g, v.ownBlock = some g → base ≤ g) := by
  obtain ⟨i, hi, hz⟩ := Option.map_eq_some_iff.1 Tryz.infoCd
  simp only [Prod.mk.injEq] at hz
  obtain ⟨hz1, hz2, hz3⟩ := hz
  obtain ⟨cells, h1, h2⟩ := hown
  have hc0 := hc
  obtain ⟨vv, va, vr, e0, e1, e2, e3, e4, q1, q2, q3, q4⟩ := hc
  obtain ⟨v', w', r1, r2, r3, -⟩ := run_append_own (P := Tryz.prog) w base 24 ty 60 i _ 5 88 Tryz.underlying24 hi hz1 hz2 hz3 rfl (by omega) v cs.length cells h1 ⟨b, 0, none⟩ 1 cp [.int .i64 c.kk, vv, va, .int .i64 c.bound, vr] rfl
    (fun j u hj => by
      have hadd : (⟨b, 0, none⟩ : Addr).add j = ⟨b, j, none⟩ := by unfold Addr.add; split <;> simp_all
      rw [hadd]
      match j with
      | 0 => simp at hj; subst hj; exact e0
      | 1 => simp at hj; subst hj; exact e1
      | 2 => simp at hj; subst hj; exact e2
      | 3 => simp at hj; subst hj; exact e3
      | 4 => simp at hj; subst hj; exact e4
      | j + 5 => simp at hj)
    (fun u hu => by
      simp only [List.mem_cons, List.not_mem_nil, or_false] at hu
      rcases hu with rfl | rfl | rfl | rfl | rfl
      · rfl
      · exact q1.oneC
      · exact q2.oneC
      · rfl
      · exact q3.oneC)
    (by unfold maxLen; omega) (by omega) hb
  have hcl : cells.length = cs.length * 5 := h1.1
  have hkeep : ∀ {F : Nat → Option Value} {d : Con}, CV5 L S w F d → CV5 L S w' F d := by
    intro F d hd
    rcases h1.2 with ⟨hv, -⟩ | ⟨g, cap, cur, hv, -, hgg, -⟩
    · refine hd.keep (T := fun _ => True) ⟨r3.os, r3.tape, r3.output, r3.size, fun k hk _ => r3.block k hk (by rw [hv]; simp [Value.ownBlock])⟩ (fun _ _ => trivial)
    · exact ((hd.apart (g := g) ⟨cur, hgg⟩).keep (T := fun k => k ≠ g) ⟨r3.os, r3.tape, r3.output, r3.size, fun k hk hne => r3.block k hk (by rw [hv]; intro e; have e : some k = some g := e; injection e with e; exact hne e)⟩ (fun k hk => hk.2)).mono (fun k hk => hk.1)
  refine ⟨v', w', r1, ⟨cells ++ [.int .i64 c.kk, vv, va, .int .i64 c.bound, vr], by simpa using r2, fun i hi => ?_⟩, r3, fun g hg => (World.ownsRow.lt h1 g hg).1⟩
  simp at hi
  by_cases hlt : i < cs.length
  · rw [show con0 (cs ++ [c]) i = con0 cs i by simp [con0, List.getD_eq_getElem?_getD, List.getElem?_append_left hlt]]
    exact (hkeep (h2 i hlt)).cast fun j hj => (List.getElem?_append_left (by omega)).symm
  · obtain rfl : i = cs.length := by omega
    rw [show con0 (cs ++ [c]) cs.length = c by simp [con0]]
    refine (hkeep (F := fun j => [Value.int .i64 c.kk, vv, va, .int .i64 c.bound, vr][j]?) ⟨vv, va, vr, rfl, rfl, rfl, rfl, rfl, q1, q2, q3, q4⟩).cast fun j hj => ?_
    show _ = (cells ++ _)[cs.length * 5 + j]?
    rw [List.getElem?_append_right (by omega), hcl, show cs.length * 5 + j - cs.length * 5 = j by omega]
theorem wpList_appCA (w : World) {ops : Array Oper} {rest : List Oper} {o : Oper} {a : Act} {Q : Exit → Act → World → Prop} (hgd : o.guard = none) (s x : Operand)
    (ho : o.op = .call { callee := .builtin .append, args := #[s, x], argTypes := #[24, 24] })
    (L base : Nat) (S : Nat → Prop) (v : Value) (cs : List Con) (c : Con) (b cp : Nat) (hs : a.eval s = v) (hx : a.eval x = .slice (some ⟨b, 0, none⟩) 1 cp)
    (hown : CA L base S w v cs) (hc : CV5 L S w (fun j => w.cell? ⟨b, j, none⟩) c) (hl : cs.length ≤ 1000000) (hb : base ≤ w.heap.size)
    (h : ∀ v' w', CA L base S w' v' (cs ++ [c]) → Below base w w' → wpList Tryz.prog ops Q rest (a.put o.dst v') w') : wpList Tryz.prog ops Q (o :: rest) a w := by
  obtain ⟨v', w', hrun, h1, h2, h3⟩ := run_appCA L base S w o.type v cs c b cp hown hc hl hb
  refine wpList_plain hgd fun K hK => ?_
  unfold Oper.wp
  simp [execOp, ho, resolve, invoke, builtin, hs, hx, hrun, Result.andThen]
  exact hK _ _ (h v' w' h1 ⟨h2.os, h2.tape, h2.output, h2.size, fun k hk => h2.block k (by omega) (fun e => by have := h3 k e.symm; omega)⟩)
/-- They read as constraints. -/
theorem CA.cons {L base : Nat} {S : Nat → Prop} {w : World} {v : Value} {cs : List Con} (h : CA L base S w v cs) (hl : cs.length ≤ 1000000) : SCons w v cs := by
  obtain ⟨cells, h1, h2⟩ := h
  rcases h1.2 with ⟨e1, e2⟩ | ⟨g, cap, cur, e1, hg, hh, hnc, hm, hcs, htk⟩
  · exact ⟨none, 0, by rw [e1, e2], by omega, by omega, fun hp => absurd hp (by omega)⟩
  · refine ⟨_, _, e1, hnc, by omega, fun _ => ⟨g, 0, rfl, (Array.getElem?_eq_some_iff.1 hh).1, fun i hi => ?_⟩⟩
    obtain ⟨vv, va, vr, e0, e1, e2, e3, e4, q1, q2, q3, -⟩ := h2 i hi
    have hcell : ∀ j u, j < 5 → cells[i * 5 + j]? = some u → w.cell? ⟨g, 0 + i * 5 + j, none⟩ = some u := by
      intro j u hj hu
      have e5 : (cur.toList.take (cs.length * 5))[i * 5 + j]? = cells[i * 5 + j]? := by rw [htk]
      rw [List.getElem?_take, if_pos (by omega), hu, Array.getElem?_toList] at e5
      simp [World.cell?, hh, e5]
    exact ⟨vv, va, vr, hcell 0 _ (by omega) e0, hcell 1 _ (by omega) e1, hcell 2 _ (by omega) e2, hcell 3 _ (by omega) e3, hcell 4 _ (by omega) e4, q1.ints, q2.ints, q3.rows⟩
end Go.Proofs.YtalgilgfoekioaaGreatDoor
/- Draws of the generator: a model. -/
namespace Go.Proofs.YtalgilgfoekioaaGreatDoor
open Go.RowKit

/-- A model that was drawn: its parts. -/
structure MV (L A B : Nat) (lo hi : Int) (w : World) (dv cv : Value) (n : Nat) (cs : List Con) : Prop where
  n1 : 1 ≤ n
  n4 : n ≤ 4
  ds : LR A 3 1 w dv n lo hi
  db : ∀ g, dv.ownBlock = some g → g < B
  ca : CA L B (fun k => B ≤ k) w cv cs
  ab : A ≤ B
  bw : B ≤ w.heap.size
theorem MV.keep {L A B : Nat} {lo hi : Int} {w w' : World} {dv cv : Value} {n : Nat} {cs : List Con} {S : Nat → Prop} (h : MV L A B lo hi w dv cv n cs) (hk : Keep S w w') (hS : ∀ k, A ≤ k → S k) : MV L A B lo hi w' dv cv n cs :=
  ⟨h.n1, h.n4, h.ds.keep hk hS, h.db, h.ca.keep hk (fun k hk => hS k (Nat.le_trans h.ab hk)) (fun k hk => hS k (Nat.le_trans h.ab hk)), h.ab, Nat.le_trans h.bw hk.size⟩
theorem MV.ext {L A B : Nat} {lo hi : Int} {w w' : World} {dv cv : Value} {n : Nat} {cs : List Con} (h : MV L A B lo hi w dv cv n cs) (hx : Ext w w') : MV L A B lo hi w' dv cv n cs := h.keep (hx.keep (fun _ => True)) (fun _ _ => trivial)
theorem MV.mono {L A A' B : Nat} {lo hi lo' hi' : Int} {w : World} {dv cv : Value} {n : Nat} {cs : List Con} (h : MV L A B lo hi w dv cv n cs) (hA : A' ≤ A) (hl : lo' ≤ lo) (hh : hi ≤ hi') : MV L A' B lo' hi' w dv cv n cs :=
  ⟨h.n1, h.n4, h.ds.mono hA hl hh, h.db, h.ca, Nat.le_trans hA h.ab, h.bw⟩
/-- A model came. -/
def MGot (L : Nat) (w0 : World) (br N : Nat) (lo hi : Int) (K : Nat) (W : World) (e : Ending) (W' : World) : Prop :=
  ∃ dv cv n cs B, e = .returned (.agg #[dv, cv]) ∧ MV L W.heap.size B lo hi W' dv cv n cs ∧ cs.length ≤ K ∧ RdSt w0 br N W' ∧ Keep (fun k => k ≠ br) W W'
theorem LR.keepb {base : Nat} {e : TypeId} {size : Nat} {w w' : World} {v : Value} {n : Nat} {lo hi : Int} {S : Nat → Prop} (h : LR base e size w v n lo hi) (hk : Keep S w w') (hS : ∀ g, v.ownBlock = some g → S g) : LR base e size w' v n lo hi := by
  obtain ⟨g, cap, f, h1, h2, h3, h3', h4, h5⟩ := h
  exact ⟨g, cap, f, h1, h2, h3, h3', hk.row (hS g (by rw [h1]; rfl)) h4, h5⟩
/-- A model in the making, in block mc; the block of the result beside it. -/
structure MB (w0 : World) (br rb mc N : Nat) (W wr : World) (dv cv : Value) : Prop where
  c0 : wr.cell? ⟨mc, 0, none⟩ = some dv
  c1 : wr.cell? ⟨mc, 1, none⟩ = some cv
  fz : ∀ i, wr.frozen? ⟨mc, i, none⟩ = false
  r : RB rb 2 wr
  rd : RdSt w0 br N wr
  kp : Keep (fun k => k ≠ br) W wr
  b0 : W.heap.size ≤ mc
  b1 : mc < wr.heap.size
  r0 : W.heap.size ≤ rb
  ne : rb ≠ mc
  br0 : br < W.heap.size
  w00 : w0.heap.size ≤ W.heap.size
theorem MB.keep {w0 : World} {br rb mc N M : Nat} {W wr w2 : World} {dv cv : Value} (h : MB w0 br rb mc N W wr dv cv) (hR : RdSt w0 br M w2) (hK : Keep (fun k => k ≠ br) wr w2) : MB w0 br rb mc M W w2 dv cv := by
  have b0 := h.b0
  have r0 := h.r0
  have br0 := h.br0
  exact ⟨(hK.cell (p := ⟨mc, 0, none⟩) h.b1 (by show mc ≠ br; omega)).trans h.c0, (hK.cell (p := ⟨mc, 1, none⟩) h.b1 (by show mc ≠ br; omega)).trans h.c1, fun i => (hK.frz (p := ⟨mc, i, none⟩) h.b1 (by show mc ≠ br; omega)).trans (h.fz i),
    h.r.keep hK (by omega), hR, h.kp.trans hK, b0, Nat.lt_of_lt_of_le h.b1 hK.size, r0, h.ne, br0, h.w00⟩
theorem MB.mono {w0 : World} {br rb mc N M : Nat} {W wr : World} {dv cv : Value} (h : MB w0 br rb mc N W wr dv cv) (hN : N ≤ M) : MB w0 br rb mc M W wr dv cv := h.keep (h.rd.mono hN) (Keep.refl _ _)
theorem MB.grow {w0 : World} {br rb mc N : Nat} {W wr w2 : World} {dv cv : Value} (h : MB w0 br rb mc N W wr dv cv) (hx : Ext wr w2) : MB w0 br rb mc N W w2 dv cv := h.keep (h.rd.grow hx) (hx.keep _)
theorem MB.far {w0 : World} {br rb mc N base : Nat} {W wr w2 : World} {dv cv : Value} (h : MB w0 br rb mc N W wr dv cv) (hk : Keep (fun k => k < base) wr w2) (h1 : mc < base) (h2 : rb < base) : MB w0 br rb mc N W w2 dv cv := by
  have b0 := h.b0
  have br0 := h.br0
  have hw0 := h.w00
  exact ⟨(hk.cell (p := ⟨mc, 0, none⟩) h.b1 h1).trans h.c0, (hk.cell (p := ⟨mc, 1, none⟩) h.b1 h1).trans h.c1, fun i => (hk.frz (p := ⟨mc, i, none⟩) h.b1 h1).trans (h.fz i),
    h.r.keep hk h2, h.rd.keep hk (by omega) (fun k hk => by omega), h.kp.trans9 hk (fun k hk _ => by omega), b0, Nat.lt_of_lt_of_le h.b1 hk.size, h.r0, h.ne, br0, hw0⟩
theorem MB.setk {w0 : World} {br rb mc N : Nat} {W wr : World} {dv cv : Value} (_h : MB w0 br rb mc N W wr dv cv) (i : Nat) (u : Value) : Keep (fun k => k ≠ mc) wr (wr.setCell ⟨mc, i, none⟩ u) := (Keep.refl (fun k => k ≠ mc) wr).set (p := ⟨mc, i, none⟩) (fun _ hh => hh rfl) u
theorem MB.set0 {w0 : World} {br rb mc N : Nat} {W wr : World} {dv cv : Value} (h : MB w0 br rb mc N W wr dv cv) (u : Value) : MB w0 br rb mc N W (wr.setCell ⟨mc, 0, none⟩ u) u cv := by
  have b0 := h.b0
  have br0 := h.br0
  have hw0 := h.w00
  have hk := h.setk 0 u
  exact ⟨World.cell?_setCell_same' _ _ _ (by rw [h.c0]; rfl), (World.cell?_setCell_other _ _ _ _ (by simp)).trans h.c1, fun i => (World.frozen?_setCell ..).trans (h.fz i), h.r.keep hk h.ne,
    h.rd.keep hk (by omega) (fun k hk => by omega), h.kp.trans9 hk (fun k hk _ => by omega), b0, Nat.lt_of_lt_of_le h.b1 hk.size, h.r0, h.ne, br0, hw0⟩
theorem MB.set1 {w0 : World} {br rb mc N : Nat} {W wr : World} {dv cv : Value} (h : MB w0 br rb mc N W wr dv cv) (u : Value) : MB w0 br rb mc N W (wr.setCell ⟨mc, 1, none⟩ u) dv u := by
  have b0 := h.b0
  have br0 := h.br0
  have hw0 := h.w00
  have hk := h.setk 1 u
  exact ⟨(World.cell?_setCell_other _ _ _ _ (by simp)).trans h.c0, World.cell?_setCell_same' _ _ _ (by rw [h.c1]; rfl), fun i => (World.frozen?_setCell ..).trans (h.fz i), h.r.keep hk h.ne,
    h.rd.keep hk (by omega) (fun k hk => by omega), h.kp.trans9 hk (fun k hk _ => by omega), b0, Nat.lt_of_lt_of_le h.b1 hk.size, h.r0, h.ne, br0, hw0⟩
theorem RB.two {rb : Nat} {w : World} (h : RB rb 2 w) : rb < w.heap.size ∧ ∃ u0 u1, w.cell? ⟨rb, 0, none⟩ = some u0 ∧ w.cell? ⟨rb, 1, none⟩ = some u1 ∧ w.frozen? ⟨rb, 0, none⟩ = false ∧ w.frozen? ⟨rb, 1, none⟩ = false := by
  obtain ⟨h1, h2, h3⟩ := h
  obtain ⟨u0, a0⟩ := h3 0 (by omega)
  obtain ⟨u1, a1⟩ := h3 1 (by omega)
  exact ⟨h1, u0, u1, a0, a1, h2 _, h2 _⟩
theorem MB.start {w0 : World} {br N : Nat} {W w1 : World} {t t' : TypeId} {x0 x1 : Value} (hR : RdSt w0 br N w1) (hK : Keep (fun k => k ≠ br) ((W.alloc (.cells #[x0, x1] t)).alloc (.cells #[.slice none 0 0, .slice none 0 0] t')) w1) (hbr : br < W.heap.size) (hw : w0.heap.size ≤ W.heap.size) :
    MB w0 br W.heap.size (W.heap.size + 1) N W w1 (.slice none 0 0) (.slice none 0 0) := by
  have hx : Ext (W.alloc (.cells #[x0, x1] t)) ((W.alloc (.cells #[x0, x1] t)).alloc (.cells #[.slice none 0 0, .slice none 0 0] t')) := (Ext.refl _).alloc _
  have hs : (W.alloc (.cells #[x0, x1] t)).heap.size = W.heap.size + 1 := by simp
  have hs2 : ((W.alloc (.cells #[x0, x1] t)).alloc (.cells #[.slice none 0 0, .slice none 0 0] t')).heap.size = W.heap.size + 2 := by simp
  have hn : W.heap.size + 1 ≠ br := by omega
  refine ⟨(hK.cell (p := ⟨W.heap.size + 1, 0, none⟩) (by rw [hs2]; show W.heap.size + 1 < _; omega) hn).trans (World.cell?_alloc_at _ _ _ _ hs.symm), (hK.cell (p := ⟨W.heap.size + 1, 1, none⟩) (by rw [hs2]; show W.heap.size + 1 < _; omega) hn).trans (World.cell?_alloc_at _ _ _ _ hs.symm),
    fun i => (hK.frz (p := ⟨W.heap.size + 1, i, none⟩) (by rw [hs2]; show W.heap.size + 1 < _; omega) hn).trans (by rw [← hs]; exact World.frozen?_alloc_new _ _ _ _), ?_, hR, (((Ext.refl W).alloc _).alloc _).keep _ |>.trans hK, by omega, by have := hK.size; omega, Nat.le_refl _, by omega, hbr, hw⟩
  refine RB.keep (S := fun k => k ≠ br) ⟨by rw [hs2]; omega, fun i => ?_, fun i hi => ?_⟩ hK (by omega)
  · exact (hx.frz W.heap.size i (by omega)).trans (World.frozen?_alloc_new _ _ _ _)
  · obtain rfl | rfl : i = 0 ∨ i = 1 := by omega
    all_goals exact ⟨_, (hx.cells W.heap.size _ (by omega)).trans (World.cell?_alloc_at _ _ _ _ rfl)⟩
set_option maxRecDepth 100000 in
set_option maxHeartbeats 8000000 in
theorem randomModel_any (w0 : World) (br N : Nat) (W : World) (hN : N ≤ 60000) (hR : RdSt w0 br N W) :
    Calls Tryz.prog 52 #[.pointer (some ⟨br, 0, none⟩)] W (MGot 99 w0 br (N + 500) 0 63 4 W) := by
  have HR := hide hR
  have hbr := hR.lt
  have hw0 := hR.ext.size
  clear hR
  go_enter Tryz.func52, Tryz.ntmps52
  go_wp2_with fail
  refine (pick_any w0 br N 4 _ (by omega) (by omega) (by omega) (HR.out.grow (((Ext.refl W).alloc _).alloc _))).mono ?_
  rintro e W1 ⟨k, k0, k1, rfl, hR1, hK1⟩
  have HMB := hide (MB.start hR1 hK1 hbr hw0)
  have hs1 : W.heap.size + 2 ≤ W1.heap.size := by have := hK1.size; simp at this; omega
  clear hR1 hK1
  obtain ⟨k, rfl⟩ : ∃ k' : Nat, k = k' := ⟨k.toNat, by omega⟩
  have hwk : IntKind.i64.wrap (1 + (k : Int)) = 1 + (k : Int) := IntWalk.i64_in _ (by omega)
  have c0 := HMB.out.c0
  have hmc := HMB.out.b1
  go_wp2_with fail
  go_loopw [4] (fun i wr => ∃ (j t : Nat) (dv : Value), i = .int .i64 j ∧ t + j = k + 1 ∧ LN (W.heap.size + 2) wr dv t 0 63 ∧ MB w0 br W.heap.size (W.heap.size + 1) (N + 1 + 3 * t) W wr dv (.slice none 0 0)) (fun i _ => (intOf i).toNat)
  case atStart => exact ⟨k + 1, 0, _, by go_num, by omega, .inl ⟨rfl, rfl⟩, HMB.out⟩
  case round =>
    obtain ⟨j, t, dv, rfl, hj, hL, hmb⟩ := hrel
    obtain ⟨A2, e2, rfl, -⟩ := hL.form
    have HL := hide hL
    have HM2 := hide hmb
    have k0' := hmb.c0
    have k1' := hmb.c1
    have q0 := hmb.fz 0
    have q1 := hmb.fz 1
    have hmc2 := hmb.b1
    clear hL hmb c0
    by_cases hj0 : 0 < j
    · have hjI : 0 < (j : Int) := by omega
      have hjw : IntKind.i64.wrap ((j : Int) - 1) = (j : Int) - 1 := IntWalk.i64_in _ (by omega)
      go_upto_region 5 with fail
      refine wp_region_any (by kernel_rfl) ?_
      change wpAny _ _ _ _ _ _ _ (World.drew _)
      refine wpAny_take (i := 0) (v := ?_) rfl (by kernel_rfl) (by kernel_rfl) (by kernel_rfl) (by first | exact fun _ _ _ h => h | (rintro _ _ _ ⟨h, _⟩; cases h)) (Or.inl ⟨by rfl, ?hy0⟩) ?_
      case hy0 => intro w; go_simp; with_reducible rfl
      simp only [Act.put, List.getElem_toArray, List.getElem_cons_zero, List.setIfInBounds_toArray, List.set_cons_succ, List.set_cons_zero]
      refine wpAny_take (i := 2) (v := ?_) rfl (by kernel_rfl) (by kernel_rfl) (by kernel_rfl) (by first | exact fun _ _ _ h => h | (rintro _ _ _ ⟨h, _⟩; cases h)) (Or.inl ⟨by rfl, ?hy2⟩) ?_
      case hy2 => intro w; go_simp; with_reducible rfl
      simp only [Act.put, List.getElem_toArray, List.getElem_cons_zero, List.getElem_cons_succ, List.setIfInBounds_toArray, List.set_cons_succ, List.set_cons_zero]
      refine wpAny_flt 1 5 [3, 4] [6, 7] (.slice A2 t e2) (fun w => w.cell? ⟨W.heap.size + 1, 0, none⟩ = some (.slice A2 t e2)) rfl (by kernel_rfl) rfl (fun _ _ _ h => h) k0' (And.intro (by rfl) ?hys) ?_
      case hys => intro w' hw'; have hk' : w'.cell? ⟨W.heap.size + 1, 0, none⟩ = some (.slice A2 t e2) := hw'; go_simp; all_goals exact rfl
      simp only [nths, nth1, Act.put, List.setIfInBounds_toArray, List.set_cons_succ, List.set_cons_zero]
      refine wpSeqC_cons fun K hK => ?_
      go_simp
      refine (randomDomain_any w0 br _ _ ?_ (HM2.out.rd.grow ((Ext.refl wr).drew))).mono ?_
      · omega
      rintro e W5 ⟨z, zz0, zz1, rfl, hR5, hK5⟩
      have hK5 : Keep (fun k => k ≠ br) wr W5 := (((Ext.refl wr).drew).keep _).trans hK5
      have HM5 := hide (HM2.out.keep hR5 hK5)
      have h5 := HM5.out.c0
      have hl5 := HM5.out.b1
      have HL5 := hide (HL.out.keep hK5 (fun k hk => by omega))
      refine hK _ _ h5 ?_
      clear hK K hR5 hK5
      refine wpSeqC_cons fun K hK => ?_
      go_simp
      refine hK _ _ ?_ ?_
      · show World.cell? (World.alloc _ _) _ = _
        exact (((Ext.refl W5).alloc _).cells _ _ (by omega)).trans h5
      clear hK K
      refine wpSeqC_nil ?_
      refine wpList_appLN _ rfl _ _ rfl (W.heap.size + 2) (.slice A2 t e2) t 0 63 z W5.heap.size 1 rfl rfl (HL5.out.ext ((Ext.refl _).alloc _)) (World.cell?_alloc_at _ _ _ _ rfl) (by omega) (by omega) (by simp; omega) ?_
      intro v' W6 hL6 hb6
      have HM6 := hide ((HM5.out.grow ((Ext.refl W5).alloc (.cells #[.int .i64 z] 3))).far (Below.keep12 hb6) (by omega) (by omega))
      have HL6 := hide hL6
      obtain ⟨g6, cap6, rfl, -, -, -⟩ := hL6.form
      clear hL6 hb6 h5 k0' k1' q0 q1
      have h6 := HM6.out.c0
      have q6 := HM6.out.fz 0
      have hl6 := HM6.out.b1
      go_wp2_with fail
      go_roundw
      case rel => exact ⟨j - 1, t + 1, _, by go_num, by omega, .inr (HL6.out.keep (HM6.out.setk 0 _) (fun k hk => by omega)), (HM6.out.mono (by omega)).set0 _⟩
      case measure => simp [intOf]; omega
    · obtain rfl : j = 0 := by omega
      have hL := HL.out
      rcases hL with ⟨-, h0⟩ | hL
      · omega
      obtain ⟨g, cap, hgv, hgb, hgl, -⟩ := hL.form
      injection hgv with hgv _ hgc
      subst hgv
      subst hgc
      have HLR := hide hL
      clear hL HL
      go_wp2_with fail
      refine (pick_any w0 br _ 5 _ (by omega) (by omega) ?_ HM2.out.rd).mono ?_
      · omega
      rintro e W3 ⟨y, yy0, yy1, rfl, hR3, hK3⟩
      have HM3 := hide (MB.mono (M := N + 20) (HM2.out.keep hR3 hK3) (by omega))
      have HL3 := hide (HLR.out.keep hK3 (fun k hk => by omega))
      have hs3 := hK3.size
      clear hR3 hK3 k0' k1' q0 q1
      obtain ⟨y, rfl⟩ : ∃ k' : Nat, y = k' := ⟨y.toNat, by omega⟩
      go_wp2_with fail
      go_loopw [5] (fun i wr => ∃ (j : Nat) (cv : Value) (cs : List Con), i = .int .i64 j ∧ cs.length + j = y ∧ CA 99 W3.heap.size (fun k => W3.heap.size ≤ k) wr cv cs ∧ W3.heap.size ≤ wr.heap.size ∧ LR (W.heap.size + 2) 3 1 wr (.slice (some ⟨g, 0, none⟩) t e2) t 0 63 ∧ MB w0 br W.heap.size (W.heap.size + 1) (N + 20 + 100 * cs.length) W wr (.slice (some ⟨g, 0, none⟩) t e2) cv) (fun i _ => (intOf i).toNat)
      case atStart => exact ⟨y, _, [], rfl, by simp, CA.nil_ _ _ _ _, Nat.le_refl _, HL3.out, HM3.out⟩
      case round =>
        obtain ⟨j, cv, cs, rfl, hj, hA, hsz, hL, hmb⟩ := hrel
        obtain ⟨Ac, ec, rfl, -⟩ := hA.form
        have HA := hide hA
        have HM4 := hide hmb
        have HL4 := hide hL
        have k0' := hmb.c0
        have k1' := hmb.c1
        have q0 := hmb.fz 0
        have q1 := hmb.fz 1
        have hmc4 := hmb.b1
        obtain ⟨hrb1, u0, u1, r0, r1, z0, z1⟩ := hmb.r.two
        clear hA hmb hL
        by_cases hj0 : 0 < j
        · have hjI : 0 < (j : Int) := by omega
          have hjw : IntKind.i64.wrap ((j : Int) - 1) = (j : Int) - 1 := IntWalk.i64_in _ (by omega)
          clear r0 r1 z0 z1
          go_upto_region 9 with fail
          refine wp_region_any (by kernel_rfl) ?_
          change wpAny _ _ _ _ _ _ _ (World.drew _)
          refine wpAny_take (i := 0) (v := ?_) rfl (by kernel_rfl) (by kernel_rfl) (by kernel_rfl) (by first | exact fun _ _ _ h => h | (rintro _ _ _ ⟨h, _⟩; cases h)) (Or.inl ⟨by rfl, ?hy0⟩) ?_
          case hy0 => intro w; go_simp; with_reducible rfl
          simp only [Act.put, List.getElem_toArray, List.getElem_cons_zero, List.setIfInBounds_toArray, List.set_cons_succ, List.set_cons_zero]
          refine wpAny_take (i := 2) (v := ?_) rfl (by kernel_rfl) (by kernel_rfl) (by kernel_rfl) (by first | exact fun _ _ _ h => h | (rintro _ _ _ ⟨h, _⟩; cases h)) (Or.inl ⟨by rfl, ?hy2⟩) ?_
          case hy2 => intro w; go_simp; with_reducible rfl
          simp only [Act.put, List.getElem_toArray, List.getElem_cons_zero, List.getElem_cons_succ, List.setIfInBounds_toArray, List.set_cons_succ, List.set_cons_zero]
          refine wpAny_take (i := 3) (v := ?_) rfl (by kernel_rfl) (by kernel_rfl) (by kernel_rfl) (by first | exact fun _ _ _ h => h | (rintro _ _ _ ⟨h, _⟩; cases h)) (Or.inl ⟨by rfl, ?hy3⟩) ?_
          case hy3 => intro w; go_simp; with_reducible rfl
          simp only [Act.put, List.getElem_toArray, List.getElem_cons_zero, List.getElem_cons_succ, List.setIfInBounds_toArray, List.set_cons_succ, List.set_cons_zero]
          refine wpAny_flt 1 8 [4, 5, 6, 7] [9, 10] (.slice Ac cs.length ec) (fun w => w.cell? ⟨W.heap.size + 1, 1, none⟩ = some (.slice Ac cs.length ec)) rfl (by kernel_rfl) rfl (fun _ _ _ h => h) k1' (And.intro (by rfl) ?hys) ?_
          case hys => intro w' hw'; have hk' : w'.cell? ⟨W.heap.size + 1, 1, none⟩ = some (.slice Ac cs.length ec) := hw'; go_simp; all_goals exact rfl
          simp only [nths, nth1, Act.put, List.setIfInBounds_toArray, List.set_cons_succ, List.set_cons_zero]
          refine wpSeqC_cons fun K hK => ?_
          go_simp
          refine hK _ _ k1' ?_
          clear hK K
          refine wpSeqC_cons fun K hK => ?_
          go_simp
          refine hK _ _ k1' ?_
          clear hK K
          refine wpSeqC_cons fun K hK => ?_
          go_simp
          refine (randomConstraint_any w0 br _ t _ (by omega) (by omega) ?_ (HM4.out.rd.grow ((Ext.refl wr).drew))).mono ?_
          · omega
          rintro e W5 ⟨v, c, rfl, hlen, ⟨vv, va, vr, rfl, i1, i2, i3⟩, hR5, hK5⟩
          have hK5 : Keep (fun k => k ≠ br) wr W5 := (((Ext.refl wr).drew).keep _).trans hK5
          obtain ⟨A1, e1, hv1, -⟩ := i1.form
          obtain ⟨A3, e3, hv2, -⟩ := i2.form
          obtain ⟨A4, e4, hv3, -⟩ := i3.1.form
          subst hv1 hv2 hv3
          have HM5 := hide (HM4.out.keep hR5 hK5)
          have h5 := HM5.out.c1
          have hl5 := HM5.out.b1
          have hs5 := hK5.size
          have HL5 := hide (HL4.out.keep hK5 (fun k hk => by omega))
          have HA5 := hide (HA.out.keep hK5 (fun k hk => by omega) (fun k hk => by omega))
          have I1 := hide (i1.mono (T := fun k => W3.heap.size ≤ k) (fun k hk => Nat.le_trans hsz hk))
          have I2 := hide (i2.mono (T := fun k => W3.heap.size ≤ k) (fun k hk => Nat.le_trans hsz hk))
          have I3 := hide (i3.mono (T := fun k => W3.heap.size ≤ k) (fun k hk => Nat.le_trans hsz hk))
          refine hK _ _ h5 ?_
          clear hK K hR5 hK5 i1 i2 i3
          refine wpSeqC_cons fun K hK => ?_
          go_simp
          refine hK _ _ ?_ ?_
          · show World.cell? (World.alloc _ _) _ = _
            exact (((Ext.refl W5).alloc _).cells _ _ (by omega)).trans h5
          clear hK K
          refine wpSeqC_nil ?_
          refine wpList_appCA _ rfl _ _ rfl 99 W3.heap.size (fun k => W3.heap.size ≤ k) (.slice Ac cs.length ec) cs c W5.heap.size 1 rfl rfl (HA5.out.ext ((Ext.refl _).alloc _)) ⟨_, _, _, World.cell?_alloc_at _ _ _ _ rfl, World.cell?_alloc_at _ _ _ _ rfl, World.cell?_alloc_at _ _ _ _ rfl, World.cell?_alloc_at _ _ _ _ rfl, World.cell?_alloc_at _ _ _ _ rfl, I1.out.ext ((Ext.refl _).alloc _), I2.out.ext ((Ext.refl _).alloc _), I3.out.ext ((Ext.refl _).alloc _), hlen⟩ (by omega) (by simp; omega) ?_
          intro v' W6 hA6 hb6
          have hb6 := Below.keep12 hb6
          have HM6 := hide ((HM5.out.grow ((Ext.refl W5).alloc (.cells #[.int .i64 c.kk, .slice A1 c.vars.length e1, .slice A3 c.args.length e3, .int .i64 c.bound, .slice A4 c.rows.length e4] 60))).far hb6 (by omega) (by omega))
          have HL6 := hide ((HL5.out.ext ((Ext.refl W5).alloc (.cells #[.int .i64 c.kk, .slice A1 c.vars.length e1, .slice A3 c.args.length e3, .int .i64 c.bound, .slice A4 c.rows.length e4] 60))).keepb hb6 (fun g' hg' => by have hg' : some g = some g' := hg'; injection hg' with hg'; omega))
          have hs6 := hb6.size
          rw [World.size_alloc] at hs6
          have HA6 := hide hA6
          obtain ⟨Ac', ec', hcv, -⟩ := hA6.form
          rw [show (cs ++ [c]).length = cs.length + 1 by simp] at hcv
          subst hcv
          clear hA6 hb6 h5 k0' k1' q0 q1
          have h6 := HM6.out.c1
          have q6 := HM6.out.fz 1
          have hl6 := HM6.out.b1
          go_wp2_with fail
          go_roundw
          case rel => exact ⟨j - 1, _, cs ++ [c], by go_num, by simp; omega, HA6.out.keep (HM6.out.setk 1 _) (fun k hk => by omega) (fun k hk => by omega), Nat.le_trans (by omega) (HM6.out.setk 1 (.slice Ac' (cs.length + 1) ec')).size, HL6.out.keep (HM6.out.setk 1 _) (fun k hk => by omega), MB.set1 (HM6.out.mono (by simp; omega)) _⟩
          case measure => simp [intOf]; omega
        · obtain rfl : j = 0 := by omega
          go_wp2_with fail
          refine bodyPost_ret (v := .agg #[.slice (some ⟨g, 0, none⟩) t e2, .slice Ac cs.length ec]) (by simp only [results, Tryz.results52]; go_simp) rfl ?_
          have hk1 : Keep (fun k => k ≠ W.heap.size) wr ((wr.setCell ⟨W.heap.size, 0, none⟩ (.slice (some ⟨g, 0, none⟩) t e2)).setCell ⟨W.heap.size, 1, none⟩ (.slice Ac cs.length ec)) :=
            ((Keep.refl (fun k => k ≠ W.heap.size) wr).set (p := ⟨W.heap.size, 0, none⟩) (fun _ hh => hh rfl) _).set (p := ⟨W.heap.size, 1, none⟩) (fun _ hh => hh rfl) _
          refine ⟨_, _, t, cs, W3.heap.size, rfl, MV.mono (L := 99) (A := W.heap.size + 2) (lo := 0) (hi := 63) ?_ (by omega) (by omega) (by omega), by omega, (HM4.out.rd.mono (by omega)).keep hk1 (by omega) (fun k hk => by omega), HM4.out.kp.trans9 hk1 (fun k hk _ => by omega)⟩
          exact ⟨by omega, by omega, HL4.out.keep hk1 (fun k hk => by omega), fun g' hg' => by have hg' : some g = some g' := hg'; injection hg' with hg'; omega, HA.out.keep hk1 (fun k hk => by omega) (fun k hk => by omega), by omega, Nat.le_trans hsz hk1.size⟩
end Go.Proofs.YtalgilgfoekioaaGreatDoor
/- Draws of the generator: a constraint is damaged. -/
namespace Go.Proofs.YtalgilgfoekioaaGreatDoor
open Go.RowKit

theorem IV.nb {S : Nat → Prop} {w : World} {v : Value} {xs : List Int} (h : IV S w v xs) : IV (fun k => S k ∧ k ≠ w.heap.size) w v xs := ⟨h.1, fun g hg => ⟨h.2.1 g hg, by have := h.lt g hg; omega⟩, h.2.2⟩
theorem RowW.lt9 {w : World} {v : Value} {xs : List Int} (h : RowW w v xs) : ∀ g, v.ownBlock = some g → g < w.heap.size := by
  obtain ⟨b, cap, m, f, rfl, -, -, h1, -⟩ := h
  intro g hg
  have hg : some b = some g := hg
  injection hg with hg
  subst hg
  exact h1.lt
theorem RV.nb {S : Nat → Prop} {w : World} {v : Value} {rs : List (List Int)} (h : RV S w v rs) : RV (fun k => S k ∧ k ≠ w.heap.size) w v rs := by
  have hb := h.1.blk9
  obtain ⟨⟨cells, h1, h2, h3⟩, h4⟩ := h
  refine ⟨⟨cells, h1, fun g hg => ⟨h2 g hg, by have := (hb g hg).2; omega⟩, fun i hi => ?_⟩, h4⟩
  obtain ⟨cv, q1, q2, q3⟩ := h3 i hi
  exact ⟨cv, q1, q2, fun g hg => ⟨q3 g hg, by have := q2.lt9 g hg; omega⟩⟩
theorem run_app_none (w : World) (ty : TypeId) (b c : Nat) (A : Option Addr) : (Builtin.append_ #[23, 23] ty #[.slice (some ⟨b, 0, none⟩) 0 0, .slice A 0 c]).run Tryz.prog w = .ok (.slice (some ⟨b, 0, none⟩) 0 0) w := by
  obtain ⟨i, hi, hz, hsz, hby⟩ := Tryz.infoIp
  cases A <;> simp [Builtin.append_, run_underlying Tryz.underlying23, sizeOf, typeInfo, hi, Builtin.lenOf, Builtin.firstCells, loadCells, loadCellsFrom, storeCells]
theorem wpList_app_none (w : World) {ops : Array Oper} {rest : List Oper} {o : Oper} {a : Act} {Q : Exit → Act → World → Prop} (hgd : o.guard = none) (s x : Operand)
    (ho : o.op = .call { callee := .builtin .append, args := #[s, x], argTypes := #[23, 23] }) (b c : Nat) (A : Option Addr) (hs : a.eval s = .slice (some ⟨b, 0, none⟩) 0 0) (hx : a.eval x = .slice A 0 c)
    (h : wpList Tryz.prog ops Q rest (a.put o.dst (.slice (some ⟨b, 0, none⟩) 0 0)) w) : wpList Tryz.prog ops Q (o :: rest) a w := by
  refine wpList_plain hgd fun K hK => ?_
  unfold Oper.wp
  simp [execOp, ho, resolve, invoke, builtin, hs, hx, run_app_none, Result.andThen]
  exact hK _ _ h
set_option maxHeartbeats 1000000 in
/-- A copy, of which the range alone is told. -/
theorem copyD_any (S : Nat → Prop) (v : Value) (xs : List Int) (W : World) (h : IV S W v xs) :
    Calls Tryz.prog 41 #[v] W (fun e W' => ∃ v', e = .returned v' ∧ LR W.heap.size 3 1 W' v' xs.length (-100000) 100000 ∧ Ext W W') := by
  have HV := hide h
  have hl := h.2.2.1
  obtain ⟨A, c, rfl, -⟩ := h.form
  by_cases h0 : xs.length = 0
  · rw [h0] at HV ⊢
    clear h
    go_enter Tryz.func41, Tryz.ntmps41
    go_wp2_with (at_builtin; go_must (refine wpList_app_none _ rfl _ _ rfl W.heap.size c A rfl rfl ?_))
    go_ret
    exact ⟨_, rfl, LR.empty 3 1 W _ _, (Ext.refl W).alloc _⟩
  · rcases h.1 with ⟨-, h1⟩ | ⟨g, cap, m, f, hv, h1, h2, h3, h4⟩
    · rw [h1] at h0; exact absurd rfl h0
    injection hv with hv _ hc
    subst hv
    subst hc
    have hcell : ∀ j, j < xs.length * 1 → ∃ x : Int, W.cell? ⟨g, j, none⟩ = some (vI x) ∧ -100000 ≤ x ∧ x ≤ 100000 := fun j hj => ⟨at0 xs j, by rw [h3.cell (by omega), h4 j (by omega)], h.2.2.2 j (by omega)⟩
    have HC := hide hcell
    have hgl := h3.lt
    clear h h3 h4 hcell
    go_enter Tryz.func41, Tryz.ntmps41
    go_wp2_with (at_builtin; go_must (refine wpList_appLI _ rfl _ _ rfl W.heap.size _ 0 xs.length (-100000) 100000 g c rfl rfl (LR.empty 3 1 W _ _) (by omega) (fun j hj => by obtain ⟨x, q1, q2⟩ := HC.out j hj; exact ⟨x, (((Ext.refl W).alloc _).cells _ _ hgl).trans q1, q2⟩) (by omega) (by simp) ?_); intro v' W3 hL3 hb3; have HL3 := hide hL3; have HB3 := hide hb3; clear hL3 hb3)
    go_ret
    exact ⟨_, rfl, by have := HL3.out; rwa [Nat.zero_add] at this, ((Ext.refl W).alloc _).below HB3.out⟩
/-- A constraint that is being damaged: in block bc, the block of the result beside it. -/
structure DB (w0 : World) (br rb bc N : Nat) (Wo W wr : World) (c : Con) (vv va vr : Value) : Prop where
  b : CB w0 br bc N Wo wr c vv va vr
  r : RB rb 5 wr
  ne : rb ≠ bc
  nr : rb ≠ br
  rb0 : W.heap.size ≤ rb
  bc0 : W.heap.size ≤ bc
  k : Keep (fun k => k ≠ br) W wr
  hc : HasC wr rb
theorem HasC.keep {S : Nat → Prop} {w w' : World} {g : Nat} (h : HasC w g) (hk : Keep S w w') (hS : S g) : HasC w' g := by
  obtain ⟨cur, h⟩ := h
  exact ⟨cur, (hk.block g (Array.getElem?_eq_some_iff.1 h).1 hS).trans h⟩
theorem DB.keep {w0 : World} {br rb bc N M : Nat} {Wo W wr w2 : World} {c : Con} {vv va vr : Value} (h : DB w0 br rb bc N Wo W wr c vv va vr) (hR : RdSt w0 br M w2) (hK : Keep (fun k => k ≠ br) wr w2) : DB w0 br rb bc M Wo W w2 c vv va vr :=
  ⟨h.b.keep hR hK, h.r.keep hK h.nr, h.ne, h.nr, h.rb0, h.bc0, h.k.trans hK, h.hc.keep hK h.nr⟩
theorem DB.mono {w0 : World} {br rb bc N M : Nat} {Wo W wr : World} {c : Con} {vv va vr : Value} (h : DB w0 br rb bc N Wo W wr c vv va vr) (hN : N ≤ M) : DB w0 br rb bc M Wo W wr c vv va vr := h.keep (h.b.rd.mono hN) (Keep.refl _ _)
theorem DB.grow {w0 : World} {br rb bc N : Nat} {Wo W wr w2 : World} {c : Con} {vv va vr : Value} (h : DB w0 br rb bc N Wo W wr c vv va vr) (hx : Ext wr w2) : DB w0 br rb bc N Wo W w2 c vv va vr := h.keep (h.b.rd.grow hx) (hx.keep _)
theorem DB.setk {w0 : World} {br rb bc N : Nat} {Wo W wr : World} {c : Con} {vv va vr : Value} (_h : DB w0 br rb bc N Wo W wr c vv va vr) (i : Nat) (u : Value) : Keep (fun k => k ≠ bc) wr (wr.setCell ⟨bc, i, none⟩ u) := (Keep.refl (fun k => k ≠ bc) wr).set (p := ⟨bc, i, none⟩) (fun _ hh => hh rfl) u
theorem DB.put {w0 : World} {br rb bc N : Nat} {Wo W wr : World} {c c' : Con} {vv va vr vv' va' vr' : Value} {i : Nat} {u : Value} (h : DB w0 br rb bc N Wo W wr c vv va vr) (hb : CB w0 br bc N Wo (wr.setCell ⟨bc, i, none⟩ u) c' vv' va' vr') : DB w0 br rb bc N Wo W (wr.setCell ⟨bc, i, none⟩ u) c' vv' va' vr' :=
  ⟨hb, h.r.keep (h.setk i u) h.ne, h.ne, h.nr, h.rb0, h.bc0, h.k.trans9 (h.setk i u) (fun k hk _ => by have := h.bc0; omega), h.hc.keep (h.setk i u) h.ne⟩
/-- A list of one number is made and set as the variables. -/
theorem DB.one1 {w0 : World} {br rb bc N : Nat} {Wo W wr : World} {c : Con} {vv va vr : Value} (h : DB w0 br rb bc N Wo W wr c vv va vr) (z : Int) (hz : -100000 ≤ z ∧ z ≤ 100000) :
    DB w0 br rb bc N Wo W ((wr.setCell ⟨bc, 1, none⟩ (.slice (some ⟨wr.heap.size, 0, none⟩) 1 1)).alloc (.cells #[.int .i64 z] 3)) { c with vars := [z] } (.slice (some ⟨wr.heap.size, 0, none⟩) 1 1) va vr := by
  have hb0 := h.b.b0
  have hb1 := h.b.b1
  have hg := h.grow ((Ext.refl wr).alloc (.cells #[.int .i64 z] 3))
  have h1 := hg.put (hg.b.set1 (IV.one _ wr z ⟨by omega, by omega⟩ hz) (by simp))
  rw [World.setCell_alloc_past _ _ _ _ h.b.b1] at h1
  exact h1
theorem DB.start {w0 : World} {br N : Nat} {Wo W : World} {t : TypeId} {c : Con} {vv va vr x0 x1 x2 x3 x4 : Value} (hR : RdSt w0 br N W) (hK : Keep (fun k => k ≠ br) Wo W) (hbr : br < Wo.heap.size) (hw : w0.heap.size ≤ Wo.heap.size)
    (h1 : IV (fun k => Wo.heap.size ≤ k) W vv c.vars) (h2 : IV (fun k => Wo.heap.size ≤ k) W va c.args) (h3 : RV (fun k => Wo.heap.size ≤ k) W vr c.rows) (hv : 0 < c.vars.length) :
    DB w0 br (W.heap.size + 1) W.heap.size N Wo W ((W.alloc (.cells #[.int .i64 c.kk, vv, va, .int .i64 c.bound, vr] t)).alloc (.cells #[x0, x1, x2, x3, x4] 60)) c vv va vr := by
  have hs := hK.size
  have hx : Ext W ((W.alloc (.cells #[.int .i64 c.kk, vv, va, .int .i64 c.bound, vr] t)).alloc (.cells #[x0, x1, x2, x3, x4] 60)) := ((Ext.refl W).alloc _).alloc _
  have hx2 : Ext (W.alloc (.cells #[.int .i64 c.kk, vv, va, .int .i64 c.bound, vr] t)) ((W.alloc (.cells #[.int .i64 c.kk, vv, va, .int .i64 c.bound, vr] t)).alloc (.cells #[x0, x1, x2, x3, x4] 60)) := (Ext.refl _).alloc _
  have hz : (W.alloc (.cells #[.int .i64 c.kk, vv, va, .int .i64 c.bound, vr] t)).heap.size = W.heap.size + 1 := by simp
  have hz2 : ((W.alloc (.cells #[.int .i64 c.kk, vv, va, .int .i64 c.bound, vr] t)).alloc (.cells #[x0, x1, x2, x3, x4] 60)).heap.size = W.heap.size + 2 := by simp
  have hlt : W.heap.size < (W.alloc (.cells #[.int .i64 c.kk, vv, va, .int .i64 c.bound, vr] t)).heap.size := by rw [hz]; omega
  refine ⟨⟨(hx2.cells _ _ hlt).trans (World.cell?_alloc_at _ _ _ _ rfl), (hx2.cells _ _ hlt).trans (World.cell?_alloc_at _ _ _ _ rfl), (hx2.cells _ _ hlt).trans (World.cell?_alloc_at _ _ _ _ rfl), (hx2.cells _ _ hlt).trans (World.cell?_alloc_at _ _ _ _ rfl), (hx2.cells _ _ hlt).trans (World.cell?_alloc_at _ _ _ _ rfl),
    fun i => (hx2.frz _ i hlt).trans (World.frozen?_alloc_new _ _ _ _), h1.nb.ext hx, h2.nb.ext hx, h3.nb.ext hx, hv, hs, by rw [hz2]; omega, hR.grow hx, hK.trans (hx.keep _), hbr, hw⟩,
    ⟨by rw [hz2]; omega, fun i => by rw [← hz]; exact World.frozen?_alloc_new _ _ _ _, fun i hi => ?_⟩, by omega, by omega, by omega, Nat.le_refl _, hx.keep _, ⟨_, by rw [← hz]; exact World.alloc_heap_new _ _⟩⟩
  obtain rfl | rfl | rfl | rfl | rfl : i = 0 ∨ i = 1 ∨ i = 2 ∨ i = 3 ∨ i = 4 := by omega
  all_goals exact ⟨_, World.cell?_alloc_at _ _ _ _ hz.symm⟩
theorem DB.done {w0 : World} {br rb bc N : Nat} {Wo W wr w' : World} {c : Con} {vv va vr : Value} (h : DB w0 br rb bc N Wo W wr c vv va vr) (hl : c.vars.length ≤ 100 ∧ c.args.length ≤ 100) (hwo : Wo.heap.size ≤ W.heap.size) (hk : Keep (fun k => k ≠ rb) wr w') :
    (0 < c.vars.length ∧ c.vars.length ≤ 100 ∧ c.args.length ≤ 100) ∧ CV (fun k => Wo.heap.size ≤ k) w' (.agg #[.int .i64 c.kk, vv, va, .int .i64 c.bound, vr]) c ∧ RdSt w0 br N w' ∧ Keep (fun k => k ≠ br) W w' := by
  have := h.rb0
  have := h.nr
  have := h.b.w00
  exact ⟨⟨h.b.nv, hl⟩, ⟨vv, va, vr, rfl, ((h.b.iv.apart h.hc).keep hk (fun k hk => hk.2)).mono (fun k hk => hk.1.1), ((h.b.ia.apart h.hc).keep hk (fun k hk => hk.2)).mono (fun k hk => hk.1.1), ((h.b.ir.apart h.hc).keep hk (fun k hk => hk.2)).mono (fun k hk => hk.1.1)⟩,
    h.b.rd.keep hk (fun e => h.nr e.symm) (fun k hk => by omega), h.k.trans9 hk (fun k hk _ => by omega)⟩
/-- A constraint was damaged. -/
def DGot (w0 : World) (br N : Nat) (Wo W : World) (e : Ending) (W' : World) : Prop :=
  ∃ v c, e = .returned v ∧ (0 < c.vars.length ∧ c.vars.length ≤ 100 ∧ c.args.length ≤ 100) ∧ CV (fun k => Wo.heap.size ≤ k) W' v c ∧ RdSt w0 br N W' ∧ Keep (fun k => k ≠ br) W W'
set_option maxRecDepth 100000 in
set_option maxHeartbeats 8000000 in
theorem damage_any (w0 Wo : World) (br N : Nat) (W : World) (v : Value) (c : Con) (hN : N ≤ 79000) (hR : RdSt w0 br N W) (hK : Keep (fun k => k ≠ br) Wo W) (hbr : br < Wo.heap.size) (hw0 : w0.heap.size ≤ Wo.heap.size)
    (hc : CV (fun k => Wo.heap.size ≤ k) W v c) (hv : 0 < c.vars.length ∧ c.vars.length ≤ 99 ∧ c.args.length ≤ 99) :
    Calls Tryz.prog 53 #[.pointer (some ⟨br, 0, none⟩), v] W (DGot w0 br (N + 2) Wo W) := by
  obtain ⟨vv, va, vr, rfl, h1, h2, h3⟩ := hc
  obtain ⟨A1, e1, hv1, -⟩ := h1.form
  obtain ⟨A2, e2, hv2, -⟩ := h2.form
  obtain ⟨A3, e3, hv3, -⟩ := h3.1.form
  subst hv1 hv2 hv3
  have hs := hK.size
  have HD := hide (fun (t : TypeId) (x0 x1 x2 x3 x4 : Value) => DB.start (t := t) (x0 := x0) (x1 := x1) (x2 := x2) (x3 := x3) (x4 := x4) hR hK hbr hw0 h1 h2 h3 hv.1)
  clear hR hK h1 h2 h3
  go_enter Tryz.func53, Tryz.ntmps53
  go_wp2_with fail
  refine (pick_any w0 br N 5 _ (by omega) (by omega) (by omega) (HD.out _ _ _ _ _ _).b.rd).mono ?_
  rintro e W1 ⟨y, y0, y1, rfl, hR1, hK1⟩
  have HD1 := hide ((HD.out _ _ _ _ _ _).keep hR1 hK1)
  have hz1 : W.heap.size + 2 ≤ W1.heap.size := by have := hK1.size; simp at this; omega
  clear hR1 hK1 HD
  have hl1 := HD1.out.b.b1
  have t1 := HD1.out.b.c1
  have t2 := HD1.out.b.c2
  have t3 := HD1.out.b.c3
  have t0 := HD1.out.b.c0
  have p0 := HD1.out.b.fz 0
  have p1 := HD1.out.b.fz 1
  have p2 := HD1.out.b.fz 2
  have p3 := HD1.out.b.fz 3
  go_upto_block 0 with fail
  go_cut [3] from 5 (fun s3 wx => s3 = .pointer (some ⟨W.heap.size, 0, none⟩) ∧ ∃ c vv va vr, DB w0 br (W.heap.size + 1) W.heap.size (N + 2) Wo W wx c vv va vr ∧ c.vars.length ≤ 100 ∧ c.args.length ≤ 100)
  case first =>
    obtain rfl | rfl | rfl | rfl | rfl : y = 0 ∨ y = 1 ∨ y = 2 ∨ y = 3 ∨ y = 4 := by omega
    · skip
      go_wp2_with fail
      refine (one_any w0 br (N + 1) (0) 10 W1.heap.size 4 4 _ (by omega) (by omega) (by omega) (HD1.out.b.rd.grow ((Ext.refl _).alloc _)) (by simp) (by omega) (newL12 W1 3 [0, 10, 1, 5] (by intro x hx; simp at hx; omega)) (Nat.le_refl _)).mono ?_
      rintro e W2 ⟨z, zz0, zz1, rfl, hR2, hK2⟩
      have HD2 := hide (HD1.out.keep hR2 ((((Ext.refl W1).alloc _).keep _).trans hK2))
      clear hR2 hK2 t0 t1 t2 t3 p0 p1 p2 p3
      have hl2 := HD2.out.b.b1
      have t1 := HD2.out.b.c1
      have t2 := HD2.out.b.c2
      have t3 := HD2.out.b.c3
      have t0 := HD2.out.b.c0
      have p0 := HD2.out.b.fz 0
      have p1 := HD2.out.b.fz 1
      have p2 := HD2.out.b.fz 2
      have p3 := HD2.out.b.fz 3
      go_wp2_with fail
      go_meet
      refine ⟨rfl, _, _, _, _, HD2.out.put (HD2.out.b.set0 _), ?_, ?_⟩
      all_goals (first | omega | (dsimp only; omega) | simp)
    · have hiv := HD1.out.b.iv
      rcases hiv.1 with ⟨-, h1⟩ | ⟨g, cap, m, f, hvv, h1, h2, h3, h4⟩
      · exact absurd hv.1 (by rw [h1]; simp)
      injection hvv with hvv _ hcc
      subst hvv
      subst hcc
      have x0 : W1.cell? ⟨g, 0, none⟩ = some (.int .i64 (at0 c.vars 0)) := by rw [h3.cell (by omega), h4 0 hv.1]; rfl
      have hx0 := hiv.2.2.2 0 hv.1
      have hgl := h3.lt
      have hvl := hv.2.1
      have hv0 : 0 < (c.vars.length : Int) := by omega
      clear h1 h2 h3 h4 hiv
      go_upto_region 6 with fail
      refine wp_region_any (by kernel_rfl) ?_
      change wpAny _ _ _ _ _ _ _ (World.drew _)
      refine wpAny_take (i := 0) (v := ?_) rfl (by kernel_rfl) (by kernel_rfl) (by kernel_rfl) (by first | exact fun _ _ _ h => h | (rintro _ _ _ ⟨h, _⟩; cases h)) (Or.inl ⟨by rfl, ?hy0⟩) ?_
      case hy0 => intro w; go_simp; with_reducible rfl
      simp only [Act.put, List.getElem_toArray, List.getElem_cons_zero, List.setIfInBounds_toArray, List.set_cons_succ, List.set_cons_zero]
      refine wpAny_take (i := 3) (v := ?_) rfl (by kernel_rfl) (by kernel_rfl) (by kernel_rfl) (by first | exact fun _ _ _ h => h | (rintro _ _ _ ⟨h, _⟩; cases h)) (Or.inl ⟨by rfl, ?hy3⟩) ?_
      case hy3 => intro w; go_simp; with_reducible rfl
      simp only [Act.put, List.getElem_toArray, List.getElem_cons_zero, List.getElem_cons_succ, List.setIfInBounds_toArray, List.set_cons_succ, List.set_cons_zero]
      refine wpAny_ofK (C := fun w => w.cell? ⟨W.heap.size, 1, none⟩ = some (.slice (some ⟨g, 0, none⟩) c.vars.length e1) ∧ w.cell? ⟨g, 0, none⟩ = some (.int .i64 (at0 c.vars 0))) (n := 8) _ _ _ _ ?_
      refine wpAnyK_take 1 (.slice (some ⟨g, 0, none⟩) c.vars.length e1) rfl (by kernel_rfl) (fun _ _ _ h => h) ⟨t1, x0⟩ (And.intro (by rfl) ?hy1) ?_
      case hy1 => intro w' hw'; obtain ⟨hk1, hk2⟩ := hw'; go_simp; all_goals exact rfl
      simp only [Act.put, List.setIfInBounds_toArray, List.set_cons_succ, List.set_cons_zero]
      refine wpAnyK_take 4 (.slice (some ⟨g, 0, none⟩) c.vars.length e1) rfl (by kernel_rfl) (fun _ _ _ h => h) ⟨t1, x0⟩ (And.intro (by rfl) ?hy4) ?_
      case hy4 => intro w' hw'; obtain ⟨hk1, hk2⟩ := hw'; go_simp; all_goals exact rfl
      simp only [Act.put, List.setIfInBounds_toArray, List.set_cons_succ, List.set_cons_zero]
      refine wpAnyK_take 5 (.pointer (some ⟨g, 0, none⟩)) rfl (by kernel_rfl) (fun _ _ _ h => h) ⟨t1, x0⟩ (And.intro (by rfl) ?hy5) ?_
      case hy5 => intro w' hw'; obtain ⟨hk1, hk2⟩ := hw'; go_simp; all_goals exact rfl
      simp only [Act.put, List.setIfInBounds_toArray, List.set_cons_succ, List.set_cons_zero]
      refine wpAnyK_take 6 (.int .i64 (at0 c.vars 0)) rfl (by kernel_rfl) (fun _ _ _ h => h) ⟨t1, x0⟩ (And.intro (by rfl) ?hy6) ?_
      case hy6 => intro w' hw'; obtain ⟨hk1, hk2⟩ := hw'; go_simp; all_goals exact rfl
      simp only [Act.put, List.setIfInBounds_toArray, List.set_cons_succ, List.set_cons_zero]
      refine wpAnyK_two (i := 2) (k := 7) (by kernel_rfl) rfl rfl (by omega) (by omega) (fun K hK => ?_) (fun K hK => ?_)
      · go_simp
        refine (copyD_any _ _ _ _ (HD1.out.b.iv.ext ((Ext.refl W1).drew))).mono ?_
        rintro e W2 ⟨v2, rfl, hL2, hX2⟩
        have hX2 : Ext W1 W2 := ((Ext.refl W1).drew).trans hX2
        have hL2 : LR W1.heap.size 3 1 W2 v2 c.vars.length (-100000) 100000 := hL2
        obtain ⟨g2, cap2, rfl, -, hg2, -⟩ := hL2.form
        refine hK _ _ ⟨(hX2.cells _ _ hl1).trans t1, (hX2.cells _ _ hgl).trans x0⟩ ?_
        clear hK K
        refine wpAnyK_one (i := 7) (by kernel_rfl) rfl (by omega) (fun K hK => ?_)
        go_simp
        have HX3 := hide (hX2.alloc (.cells #[.int .i64 (at0 c.vars 0)] 3))
        refine hK _ _ ⟨(HX3.out.cells _ _ hl1).trans t1, (HX3.out.cells _ _ hgl).trans x0⟩ ?_
        clear hK K
        have HL2 := hide (hL2.ext ((Ext.refl W2).alloc (.cells #[.int .i64 (at0 c.vars 0)] 3)))
        have hone := new1 W2 3 hx0
        obtain ⟨b7, hb7⟩ : ∃ b7, b7 = W2.heap.size := ⟨_, rfl⟩
        rw [← hb7] at hone ⊢
        obtain ⟨W3, hW3⟩ : ∃ W3, W3 = W2.alloc (.cells #[.int .i64 (at0 c.vars 0)] 3) := ⟨_, rfl⟩
        rw [← hW3] at hone HX3 HL2 ⊢
        clear hL2 hX2 hW3 hb7
        refine wpAnyK_fin 8 [9, 10] (by omega) (by kernel_rfl) ?_
        simp only [nths, nth1]
        have hbw : W1.heap.size ≤ W3.heap.size := HX3.out.size
        refine wpList_appLI _ rfl _ _ rfl W1.heap.size (.slice (some ⟨g2, 0, none⟩) c.vars.length cap2) c.vars.length 1 (-100000) 100000 b7 1 rfl rfl HL2.out (by omega) hone (by omega) (by omega) ?_
        intro v3 W4 hL3 hb3
        obtain ⟨g3, cap3, rfl, -, -, -⟩ := hL3.form
        have HL3 := hide hL3
        have HD2 := hide (HD1.out.keep ((HD1.out.b.rd.grow HX3.out).far8 hb3 (by omega) (by omega)) ((HX3.out.keep _).far8 hb3))
        clear hL3 hb3 hone t0 t1 t2 t3 p0 p1 p2 p3
        have hl2 := HD2.out.b.b1
        have t1 := HD2.out.b.c1
        have p1 := HD2.out.b.fz 1
        go_wp2_with fail
        go_meet
        obtain ⟨ys, y1, y2, -⟩ := LN.iv (.inr HL3.out) (by omega) (by omega) (by omega)
        have hb0 := HD1.out.b.b0
        refine ⟨rfl, _, _, _, _, DB.mono (HD2.out.put (HD2.out.b.set1 (y2.mono (fun k hk => ⟨by omega, by omega⟩)) (by omega))) (by omega), ?_, ?_⟩
        all_goals (first | omega | (dsimp only; omega) | simp)
      · go_simp
        have hXa : Ext W1 ((W1.alloc (.cells #[.int .i64 (at0 c.vars 0)] 3)).drew) := ((Ext.refl W1).alloc _).drew
        refine hK _ _ ⟨(hXa.cells _ _ hl1).trans t1, (hXa.cells _ _ hgl).trans x0⟩ ?_
        clear hK K
        refine wpAnyK_one (i := 2) (by kernel_rfl) rfl (by omega) (fun K hK => ?_)
        go_simp
        refine (copyD_any _ _ _ _ (HD1.out.b.iv.ext hXa)).mono ?_
        rintro e W3 ⟨v2, rfl, hL2, hX2⟩
        have HX3 := hide (hXa.trans hX2)
        have HL2 := hide (hL2.mono (b0 := W1.heap.size) (l2 := -100000) (h2 := 100000) hXa.size (by omega) (by omega))
        obtain ⟨g2, cap2, rfl, -, hg2, -⟩ := hL2.form
        refine hK _ _ ⟨(HX3.out.cells _ _ hl1).trans t1, (HX3.out.cells _ _ hgl).trans x0⟩ ?_
        clear hK K
        have hone : ∀ j, j < 1 * 1 → ∃ x : Int, W3.cell? ⟨W1.heap.size, j, none⟩ = some (vI x) ∧ -100000 ≤ x ∧ x ≤ 100000 := fun j hj => by
          obtain ⟨x, q1, q2⟩ := new1 W1 3 hx0 j hj
          exact ⟨x, (hX2.cells _ _ (by show _ < (W1.alloc _).heap.size; simp)).trans q1, q2⟩
        obtain ⟨b7, hb7⟩ : ∃ b7, b7 = W1.heap.size := ⟨_, rfl⟩
        rw [← hb7] at hone ⊢
        clear hL2 hX2 hXa
        refine wpAnyK_fin 8 [9, 10] (by omega) (by kernel_rfl) ?_
        simp only [nths, nth1]
        have hbw : W1.heap.size ≤ W3.heap.size := HX3.out.size
        refine wpList_appLI _ rfl _ _ rfl W1.heap.size (.slice (some ⟨g2, 0, none⟩) c.vars.length cap2) c.vars.length 1 (-100000) 100000 b7 1 rfl rfl HL2.out (by omega) hone (by omega) (by omega) ?_
        intro v3 W4 hL3 hb3
        obtain ⟨g3, cap3, rfl, -, -, -⟩ := hL3.form
        have HL3 := hide hL3
        have HD2 := hide (HD1.out.keep ((HD1.out.b.rd.grow HX3.out).far8 hb3 (by omega) (by omega)) ((HX3.out.keep _).far8 hb3))
        clear hL3 hb3 hone t0 t1 t2 t3 p0 p1 p2 p3
        have hl2 := HD2.out.b.b1
        have t1 := HD2.out.b.c1
        have p1 := HD2.out.b.fz 1
        go_wp2_with fail
        go_meet
        obtain ⟨ys, y1, y2, -⟩ := LN.iv (.inr HL3.out) (by omega) (by omega) (by omega)
        have hb0 := HD1.out.b.b0
        refine ⟨rfl, _, _, _, _, DB.mono (HD2.out.put (HD2.out.b.set1 (y2.mono (fun k hk => ⟨by omega, by omega⟩)) (by omega))) (by omega), ?_, ?_⟩
        all_goals (first | omega | (dsimp only; omega) | simp)
    · go_wp2_with fail
      refine (copyD_any _ _ _ _ HD1.out.b.ia).mono ?_
      rintro e W2 ⟨v2, rfl, hL2, hX2⟩
      obtain ⟨g2, cap2, rfl, -, hg2, -⟩ := hL2.form
      have HL2 := hide hL2
      have HX2 := hide hX2
      have hz2 := hX2.size
      clear hL2 hX2 t0 t1 t2 t3 p0 p1 p2 p3
      have hla := hv.2.2
      go_wp2_with (at_builtin; go_must (refine wpList_appLI _ rfl _ _ rfl W1.heap.size (.slice (some ⟨g2, 0, none⟩) c.args.length cap2) c.args.length 1 (-100000) 100000 W2.heap.size 1 rfl rfl (HL2.out.ext ((Ext.refl _).alloc _)) (by omega) (new1 W2 _ (by omega)) (by omega) (by simp; omega) ?_); intro v3 W3 hL3 hb3; obtain ⟨g3, cap3, rfl, -, -, -⟩ := hL3.form; have HL3 := hide hL3; have HD2 := hide (HD1.out.keep ((HD1.out.b.rd.grow (HX2.out.alloc _)).far8 hb3 (by omega) (by omega)) (((HX2.out.alloc _).keep _).far8 hb3)); clear hL3 hb3; have hl2 := HD2.out.b.b1; have t2 := HD2.out.b.c2; have p2 := HD2.out.b.fz 2)
      go_meet
      obtain ⟨ys, y1, y2, -⟩ := LN.iv (.inr HL3.out) (by omega) (by omega) (by omega)
      have hb0 := HD1.out.b.b0
      refine ⟨rfl, _, _, _, _, DB.mono (HD2.out.put (HD2.out.b.set2 (y2.mono (fun k hk => ⟨by omega, by omega⟩)))) (by omega), ?_, ?_⟩
      all_goals (first | omega | (dsimp only; omega) | simp)
    · skip
      go_wp2_with fail
      refine (one_any w0 br (N + 1) (-1000) 1000 W1.heap.size 3 3 _ (by omega) (by omega) (by omega) (HD1.out.b.rd.grow ((Ext.refl _).alloc _)) (by simp) (by omega) (newL12 W1 3 [-1000, 1000, 5] (by intro x hx; simp at hx; omega)) (Nat.le_refl _)).mono ?_
      rintro e W2 ⟨z, zz0, zz1, rfl, hR2, hK2⟩
      have HD2 := hide (HD1.out.keep hR2 ((((Ext.refl W1).alloc _).keep _).trans hK2))
      clear hR2 hK2 t0 t1 t2 t3 p0 p1 p2 p3
      have hl2 := HD2.out.b.b1
      have t1 := HD2.out.b.c1
      have t2 := HD2.out.b.c2
      have t3 := HD2.out.b.c3
      have t0 := HD2.out.b.c0
      have p0 := HD2.out.b.fz 0
      have p1 := HD2.out.b.fz 1
      have p2 := HD2.out.b.fz 2
      have p3 := HD2.out.b.fz 3
      go_wp2_with fail
      go_meet
      refine ⟨rfl, _, _, _, _, HD2.out.put (HD2.out.b.set3 _), ?_, ?_⟩
      all_goals (first | omega | (dsimp only; omega) | simp)
    · skip
      go_wp2_with fail
      refine (one_any w0 br (N + 1) (-1) 4 W1.heap.size 2 2 _ (by omega) (by omega) (by omega) (HD1.out.b.rd.grow ((Ext.refl _).alloc _)) (by simp) (by omega) (newL12 W1 3 [-1, 4] (by intro x hx; simp at hx; omega)) (Nat.le_refl _)).mono ?_
      rintro e W2 ⟨z, zz0, zz1, rfl, hR2, hK2⟩
      have HD2 := hide (HD1.out.keep hR2 ((((Ext.refl W1).alloc _).keep _).trans hK2))
      clear hR2 hK2 t0 t1 t2 t3 p0 p1 p2 p3
      have hl2 := HD2.out.b.b1
      have t1 := HD2.out.b.c1
      have t2 := HD2.out.b.c2
      have t3 := HD2.out.b.c3
      have t0 := HD2.out.b.c0
      have p0 := HD2.out.b.fz 0
      have p1 := HD2.out.b.fz 1
      have p2 := HD2.out.b.fz 2
      have p3 := HD2.out.b.fz 3
      go_wp2_with fail
      go_meet
      refine ⟨rfl, _, _, _, _, HD2.out.one1 _ (by omega), ?_, ?_⟩
      all_goals (first | omega | (dsimp only; omega) | simp)
  case rest =>
    clear t0 t1 t2 t3 p0 p1 p2 p3 hl1 HD1
    obtain ⟨rfl, c', vv, va, vr, hd, hl1, hl2⟩ := hcut
    obtain ⟨B1, e5, hv1, -⟩ := hd.b.iv.form
    obtain ⟨B2, e6, hv2, -⟩ := hd.b.ia.form
    obtain ⟨B3, e7, hv3, -⟩ := hd.b.ir.1.form
    subst hv1 hv2 hv3
    have c0 := hd.b.c0
    have c1 := hd.b.c1
    have c2 := hd.b.c2
    have c3 := hd.b.c3
    have c4 := hd.b.c4
    have hbc := hd.b.b1
    obtain ⟨hrb1, u0, u1, u2, u3, u4, r0, r1, r2, r3, r4, z0, z1, z2, z3, z4⟩ := hd.r.five
    have HD9 := hide hd
    clear hd
    go_wp2_with fail
    refine bodyPost_ret (v := .agg #[.int .i64 c'.kk, .slice B1 c'.vars.length e5, .slice B2 c'.args.length e6, .int .i64 c'.bound, .slice B3 c'.rows.length e7]) (by simp only [results, Tryz.results53]; go_simp) rfl ?_
    obtain ⟨q1, q2, q3, q4⟩ := HD9.out.done ⟨hl1, hl2⟩ hs (w' := ((((wc.setCell ⟨W.heap.size + 1, 0, none⟩ (.int .i64 c'.kk)).setCell ⟨W.heap.size + 1, 1, none⟩ (.slice B1 c'.vars.length e5)).setCell ⟨W.heap.size + 1, 2, none⟩ (.slice B2 c'.args.length e6)).setCell ⟨W.heap.size + 1, 3, none⟩ (.int .i64 c'.bound)).setCell ⟨W.heap.size + 1, 4, none⟩ (.slice B3 c'.rows.length e7)) (by (repeat refine Keep.set ?_ (fun _ hh => hh rfl) _); exact Keep.refl _ _)
    exact ⟨_, c', rfl, q1, q2, q3, q4⟩
end Go.Proofs.YtalgilgfoekioaaGreatDoor
/- Draws of the generator: a model that may be invalid. -/
namespace Go.Proofs.YtalgilgfoekioaaGreatDoor
open Go.RowKit

/-- Constraints as a row, for stores into it. -/
def CF (L B : Nat) (S : Nat → Prop) (w : World) (v : Value) (cs : List Con) : Prop :=
  (v = .slice none 0 0 ∧ cs = []) ∨ ∃ g cap f, v = .slice (some ⟨g, 0, none⟩) cs.length cap ∧ B ≤ g ∧ cs.length ≤ cap ∧ w.rowIs g 60 (cap * 5) f ∧ ∀ i, i < cs.length → CV5 L S w (fun j => some (f (i * 5 + j))) (con0 cs i)
theorem CA.cf {L B : Nat} {S : Nat → Prop} {w : World} {v : Value} {cs : List Con} (h : CA L B S w v cs) : CF L B S w v cs := by
  obtain ⟨cells, h1, h2⟩ := h
  rcases h1.2 with ⟨e1, e2⟩ | ⟨g, cap, cur, e1, hg, hh, hnc, hm, hcs, htk⟩
  · exact .inl ⟨e1, List.length_eq_zero_iff.1 e2⟩
  · refine .inr ⟨g, cap, fun i => cur.getD i (.bool false), e1, hg, hnc, ⟨cur, hh, hcs, fun i hi => by show _ = some (cur.getD i _); rw [Array.getD_eq_getD_getElem?, Array.getElem?_eq_getElem (by omega)]; rfl⟩, fun i hi => (h2 i hi).cast fun j hj => ?_⟩
    have e5 : (cur.toList.take (cs.length * 5))[i * 5 + j]? = cells[i * 5 + j]? := by rw [htk]
    rw [List.getElem?_take, if_pos (by omega), Array.getElem?_toList] at e5
    have hle : cs.length * 5 ≤ cap * 5 := Nat.mul_le_mul_right _ hnc
    show _ = some (cur.getD (i * 5 + j) _)
    rw [← e5, Array.getD_eq_getD_getElem?, Array.getElem?_eq_getElem (by omega)]
    rfl
theorem CF.form {L B : Nat} {S : Nat → Prop} {w : World} {v : Value} {cs : List Con} (h : CF L B S w v cs) : ∃ A c, v = .slice A cs.length c ∧ cs.length ≤ c := by
  rcases h with ⟨rfl, rfl⟩ | ⟨g, cap, f, rfl, -, h, -⟩
  · exact ⟨_, _, rfl, Nat.le_refl _⟩
  · exact ⟨_, _, rfl, h⟩
theorem CF.wide {L M B : Nat} {S : Nat → Prop} {w : World} {v : Value} {cs : List Con} (h : CF L B S w v cs) (hL : L ≤ M) : CF M B S w v cs :=
  h.imp id fun ⟨g, cap, f, h1, h2, h3, h4, h5⟩ => ⟨g, cap, f, h1, h2, h3, h4, fun i hi => (h5 i hi).wide hL⟩
theorem CF.keep {L B : Nat} {S T : Nat → Prop} {w w' : World} {v : Value} {cs : List Con} (h : CF L B S w v cs) (hk : Keep T w w') (hb : ∀ k, B ≤ k → T k) (hS : ∀ k, S k → T k) : CF L B S w' v cs :=
  h.imp id fun ⟨g, cap, f, h1, h2, h3, h4, h5⟩ => ⟨g, cap, f, h1, h2, h3, hk.row (hb g h2) h4, fun i hi => (h5 i hi).keep hk hS⟩
theorem CF.cons {L B : Nat} {S : Nat → Prop} {w : World} {v : Value} {cs : List Con} (h : CF L B S w v cs) (hl : cs.length ≤ 1000000) : SCons w v cs := by
  rcases h with ⟨rfl, rfl⟩ | ⟨g, cap, f, e1, hg, hnc, hr, h2⟩
  · exact ⟨none, 0, rfl, Nat.le_refl _, by simp, fun hp => absurd hp (by simp)⟩
  · have hle : cs.length * 5 ≤ cap * 5 := Nat.mul_le_mul_right _ hnc
    refine ⟨_, _, e1, hnc, by omega, fun _ => ⟨g, 0, rfl, hr.lt, fun i hi => ?_⟩⟩
    obtain ⟨vv, va, vr, e0, e1, e2, e3, e4, q1, q2, q3, -⟩ := h2 i hi
    have hcell : ∀ j u, j < 5 → some (f (i * 5 + j)) = some u → w.cell? ⟨g, 0 + i * 5 + j, none⟩ = some u := by
      intro j u hj hu
      rw [Nat.zero_add, hr.cell (by omega), hu]
    exact ⟨vv, va, vr, hcell 0 _ (by omega) e0, hcell 1 _ (by omega) e1, hcell 2 _ (by omega) e2, hcell 3 _ (by omega) e3, hcell 4 _ (by omega) e4, q1.ints, q2.ints, q3.rows⟩
/-- One constraint is replaced. -/
theorem CF.set {L B : Nat} {S : Nat → Prop} {w : World} {g n cap k : Nat} {cs : List Con} {c : Con} {vv va vr : Value} (h : CF L B S w (.slice (some ⟨g, 0, none⟩) n cap) cs) (hk : k < cs.length)
    (hn : CV5 L S w (fun j => [Value.int .i64 c.kk, vv, va, .int .i64 c.bound, vr][j]?) c) :
    CF L B S (((((w.setCell ⟨g, k * 5, none⟩ (.int .i64 c.kk)).setCell ⟨g, k * 5 + 1, none⟩ vv).setCell ⟨g, k * 5 + 2, none⟩ va).setCell ⟨g, k * 5 + 3, none⟩ (.int .i64 c.bound)).setCell ⟨g, k * 5 + 4, none⟩ vr) (.slice (some ⟨g, 0, none⟩) n cap) (cs.set k c) := by
  rcases h with ⟨h, -⟩ | ⟨g', cap', f, e1, hg, hnc, hr, h2⟩
  · cases h
  injection e1 with e1 e2 e3
  injection e1 with e1
  injection e1 with e1 _
  subst e1 e2 e3
  have hle : cs.length * 5 ≤ cap * 5 := Nat.mul_le_mul_right _ hnc
  have hC : HasC w g := by obtain ⟨cur, k1, -⟩ := hr; exact ⟨cur, k1⟩
  have hK : Keep (fun k => k ≠ g) w (((((w.setCell ⟨g, k * 5, none⟩ (.int .i64 c.kk)).setCell ⟨g, k * 5 + 1, none⟩ vv).setCell ⟨g, k * 5 + 2, none⟩ va).setCell ⟨g, k * 5 + 3, none⟩ (.int .i64 c.bound)).setCell ⟨g, k * 5 + 4, none⟩ vr) := by
    repeat refine Keep.set ?_ (fun _ hh => hh rfl) _
    exact Keep.refl _ _
  have mv : ∀ {F : Nat → Option Value} {d : Con}, CV5 L S w F d → CV5 L S (((((w.setCell ⟨g, k * 5, none⟩ (.int .i64 c.kk)).setCell ⟨g, k * 5 + 1, none⟩ vv).setCell ⟨g, k * 5 + 2, none⟩ va).setCell ⟨g, k * 5 + 3, none⟩ (.int .i64 c.bound)).setCell ⟨g, k * 5 + 4, none⟩ vr) F d :=
    fun hd => ((hd.apart hC).keep hK (fun k hk => hk.2)).mono (fun k hk => hk.1)
  have hr5 := ((((hr.set (k * 5) (.int .i64 c.kk)).set (k * 5 + 1) vv).set (k * 5 + 2) va).set (k * 5 + 3) (.int .i64 c.bound)).set (k * 5 + 4) vr
  refine .inr ⟨g, cap, _, by rw [List.length_set], hg, by rw [List.length_set]; exact hnc, hr5, fun i hi => ?_⟩
  rw [List.length_set] at hi
  by_cases hik : i = k
  · subst hik
    rw [show con0 (cs.set i c) i = c by simp [con0, hi]]
    refine (mv hn).cast fun j hj => ?_
    obtain rfl | rfl | rfl | rfl | rfl : j = 0 ∨ j = 1 ∨ j = 2 ∨ j = 3 ∨ j = 4 := by omega
    all_goals simp
  · rw [show con0 (cs.set k c) i = con0 cs i by simp [con0, List.getD_eq_getElem?_getD, List.getElem?_set_ne (Ne.symm hik)]]
    refine (mv (h2 i hi)).cast fun j hj => ?_
    have a0 : i * 5 + j ≠ k * 5 := by omega
    have a1 : i * 5 + j ≠ k * 5 + 1 := by omega
    have a2 : i * 5 + j ≠ k * 5 + 2 := by omega
    have a3 : i * 5 + j ≠ k * 5 + 3 := by omega
    have a4 : i * 5 + j ≠ k * 5 + 4 := by omega
    simp [a0, a1, a2, a3, a4]
/-- The world as it was when it had B blocks. -/
theorem Keep.cut (w : World) {B : Nat} (hB : B ≤ w.heap.size) : ∃ wo : World, wo.heap.size = B ∧ ∀ S, Keep S wo w := by
  refine ⟨{ w with heap := w.heap.extract 0 B }, by simp; omega, fun S => ⟨rfl, rfl, rfl, by simp; omega, fun k hk _ => ?_⟩⟩
  simp at hk
  show w.heap[k]? = (w.heap.extract 0 B)[k]?
  simp [hk]
/-- A model that was drawn: its parts, the constraints as a row. -/
structure MF (A B : Nat) (lo hi : Int) (w : World) (dv cv : Value) (n : Nat) (cs : List Con) : Prop where
  n1 : 1 ≤ n
  n4 : n ≤ 4
  ds : LR A 3 1 w dv n lo hi
  db : ∀ g, dv.ownBlock = some g → g < B
  ca : CF 100 B (fun k => B ≤ k) w cv cs
  ab : A ≤ B
  bw : B ≤ w.heap.size
theorem MV.mf {L A B : Nat} {lo hi : Int} {w : World} {dv cv : Value} {n : Nat} {cs : List Con} (h : MV L A B lo hi w dv cv n cs) (hL : L ≤ 100) : MF A B lo hi w dv cv n cs := ⟨h.n1, h.n4, h.ds, h.db, h.ca.cf.wide hL, h.ab, h.bw⟩
theorem MF.keep {A B : Nat} {lo hi : Int} {w w' : World} {dv cv : Value} {n : Nat} {cs : List Con} {S : Nat → Prop} (h : MF A B lo hi w dv cv n cs) (hk : Keep S w w') (hS : ∀ k, A ≤ k → S k) : MF A B lo hi w' dv cv n cs :=
  ⟨h.n1, h.n4, h.ds.keep hk hS, h.db, h.ca.keep hk (fun k hk => hS k (Nat.le_trans h.ab hk)) (fun k hk => hS k (Nat.le_trans h.ab hk)), h.ab, Nat.le_trans h.bw hk.size⟩
theorem MF.ext {A B : Nat} {lo hi : Int} {w w' : World} {dv cv : Value} {n : Nat} {cs : List Con} (h : MF A B lo hi w dv cv n cs) (hx : Ext w w') : MF A B lo hi w' dv cv n cs := h.keep (hx.keep (fun _ => True)) (fun _ _ => trivial)
theorem MF.mono {A A' B : Nat} {lo hi lo' hi' : Int} {w : World} {dv cv : Value} {n : Nat} {cs : List Con} (h : MF A B lo hi w dv cv n cs) (hA : A' ≤ A) (hl : lo' ≤ lo) (hh : hi ≤ hi') : MF A' B lo' hi' w dv cv n cs :=
  ⟨h.n1, h.n4, h.ds.mono hA hl hh, h.db, h.ca, Nat.le_trans hA h.ab, h.bw⟩
/-- A model came that may be invalid. -/
def FGot (w0 : World) (br N : Nat) (K : Nat) (W : World) (e : Ending) (W' : World) : Prop :=
  ∃ dv cv n cs B, e = .returned (.agg #[dv, cv]) ∧ MF W.heap.size B (-1) 64 W' dv cv n cs ∧ cs.length ≤ K ∧ RdSt w0 br N W' ∧ Keep (fun k => k ≠ br) W W'
set_option maxRecDepth 100000 in
set_option maxHeartbeats 8000000 in
theorem anyModel_any (w0 : World) (br N : Nat) (W : World) (hN : N ≤ 60000) (hR : RdSt w0 br N W) :
    Calls Tryz.prog 26 #[.pointer (some ⟨br, 0, none⟩)] W (FGot w0 br (N + 504) 4 W) := by
  have HR := hide hR
  have hbr := hR.lt
  have hw0 := hR.ext.size
  clear hR
  go_enter Tryz.func26, Tryz.ntmps26
  go_wp2_with fail
  refine (randomModel_any w0 br N _ hN (HR.out.grow ((Ext.refl W).alloc _))).mono ?_
  rintro e W1 ⟨dv, cv, n, cs, B, rfl, hmv, hcs, hR1, hK1⟩
  obtain ⟨g, cap, hdv, hgA, hgl, -⟩ := hmv.ds.form
  subst hdv
  obtain ⟨Ac, ec, hcv, -⟩ := hmv.ca.form
  subst hcv
  have hsA : (W.alloc (.cells #[.slice none 0 0, .slice none 0 0] 26)).heap.size = W.heap.size + 1 := by simp
  rw [hsA] at hgA hmv
  have hs1 : W.heap.size + 1 ≤ W1.heap.size := by have := hK1.size; rw [hsA] at this; exact this
  have hrb1 : RB W.heap.size 2 W1 := by
    refine RB.keep (S := fun k => k ≠ br) ⟨by rw [hsA]; omega, fun i => World.frozen?_alloc_new _ _ _ _, fun i hi => ?_⟩ hK1 (by omega)
    obtain rfl | rfl : i = 0 ∨ i = 1 := by omega
    all_goals exact ⟨_, World.cell?_alloc_at _ _ _ _ rfl⟩
  have hgB : g < B := hmv.db g rfl
  have hBw := hmv.bw
  have hn1 := hmv.n1
  have hn4 := hmv.n4
  have HL9 := hide (show ∀ i, i < cs.length → 0 < (con0 cs i).vars.length ∧ (con0 cs i).vars.length ≤ 99 ∧ (con0 cs i).args.length ≤ 99 from by
    obtain ⟨cells, q1, q2⟩ := hmv.ca
    intro i hi
    obtain ⟨_, _, _, _, _, _, _, _, _, _, _, h⟩ := q2 i hi
    exact h)
  have HAc := hide (show ∀ h', (Value.slice Ac cs.length ec).ownBlock = some h' → h' < W1.heap.size from by
    obtain ⟨cells, q1, -⟩ := hmv.ca
    exact fun h' hh' => (World.ownsRow.lt q1 h' hh').2)
  have HMF1 := hide ((hmv.mf (by omega)).mono (A' := W.heap.size + 1) (lo' := -1) (hi' := 64) (Nat.le_refl _) (by omega) (by omega))
  have HRB1 := hide hrb1
  have HR1 := hide hR1
  have HK1 := hide ((((Ext.refl W).alloc _).keep _).trans hK1)
  clear hmv hrb1 hR1 hK1
  go_wp2_with fail
  refine (pick_any w0 br (N + 500) 16 _ (by omega) (by omega) (by omega) (HR1.out.grow ((Ext.refl W1).alloc _))).mono ?_
  rintro e W2 ⟨y, y0, y1, rfl, hR2, hK2⟩
  have hne : W1.heap.size ≠ br := by omega
  have hs2 : W1.heap.size < W2.heap.size := by have := hK2.size; simp at this; omega
  have m0 := (hK2.cell (p := ⟨W1.heap.size, 0, none⟩) (by simp) hne).trans (World.cell?_alloc_at _ _ _ _ rfl)
  have m1 := (hK2.cell (p := ⟨W1.heap.size, 1, none⟩) (by simp) hne).trans (World.cell?_alloc_at _ _ _ _ rfl)
  have hK12 : Keep (fun k => k ≠ br) W1 W2 := (((Ext.refl W1).alloc _).keep _).trans hK2
  have HMF2 := hide (HMF1.out.keep hK12 (fun k hk => by omega))
  have HRB2 := hide (HRB1.out.keep hK12 (by omega))
  have HR2 := hide hR2
  have HK2 := hide (HK1.out.trans hK12)
  clear hR2 hK2 hK12
  go_upto_block 0 with fail
  go_cut [3] from 4 (fun s3 wx => s3 = .pointer (some ⟨W1.heap.size, 0, none⟩) ∧ W1.heap.size < wx.heap.size ∧ wx.cell? ⟨W1.heap.size, 0, none⟩ = some (.slice (some ⟨g, 0, none⟩) n cap) ∧ wx.cell? ⟨W1.heap.size, 1, none⟩ = some (.slice Ac cs.length ec) ∧
    ∃ cs' : List Con, cs'.length = cs.length ∧ MF (W.heap.size + 1) B (-1) 64 wx (.slice (some ⟨g, 0, none⟩) n cap) (.slice Ac cs.length ec) n cs' ∧ RdSt w0 br (N + 504) wx ∧ RB W.heap.size 2 wx ∧ Keep (fun k => k ≠ br) W wx)
  case first =>
    by_cases hy0 : y = 0
    · subst hy0
      go_upto_region 4 with fail
      refine wp_region_any (by kernel_rfl) ?_
      change wpAny _ _ _ _ _ _ _ (World.drew _)
      refine wpAny_take (i := 0) (v := ?_) rfl (by kernel_rfl) (by kernel_rfl) (by kernel_rfl) (by first | exact fun _ _ _ h => h | (rintro _ _ _ ⟨h, _⟩; cases h)) (Or.inl ⟨by rfl, ?hy0⟩) ?_
      case hy0 => intro w; go_simp; with_reducible rfl
      simp only [Act.put, List.getElem_toArray, List.getElem_cons_zero, List.setIfInBounds_toArray, List.set_cons_succ, List.set_cons_zero]
      refine wpAny_take (i := 2) (v := ?_) rfl (by kernel_rfl) (by kernel_rfl) (by kernel_rfl) (by first | exact fun _ _ _ h => h | (rintro _ _ _ ⟨h, _⟩; cases h)) (Or.inl ⟨by rfl, ?hy2⟩) ?_
      case hy2 => intro w; go_simp; with_reducible rfl
      simp only [Act.put, List.getElem_toArray, List.getElem_cons_zero, List.getElem_cons_succ, List.setIfInBounds_toArray, List.set_cons_succ, List.set_cons_zero]
      refine wpAny_take (i := 3) (v := ?_) rfl (by kernel_rfl) (by kernel_rfl) (by kernel_rfl) (by first | exact fun _ _ _ h => h | (rintro _ _ _ ⟨h, _⟩; cases h)) (Or.inl ⟨by rfl, ?hy3⟩) ?_
      case hy3 => intro w; go_simp; with_reducible rfl
      simp only [Act.put, List.getElem_toArray, List.getElem_cons_zero, List.getElem_cons_succ, List.setIfInBounds_toArray, List.set_cons_succ, List.set_cons_zero]
      refine wpAny_take (i := 7) (v := ?_) rfl (by kernel_rfl) (by kernel_rfl) (by kernel_rfl) (by first | exact fun _ _ _ h => h | (rintro _ _ _ ⟨h, _⟩; cases h)) (Or.inl ⟨by rfl, ?hy7⟩) ?_
      case hy7 => intro w; go_simp; with_reducible rfl
      simp only [Act.put, List.getElem_toArray, List.getElem_cons_zero, List.getElem_cons_succ, List.setIfInBounds_toArray, List.set_cons_succ, List.set_cons_zero]
      refine wpAny_ofK (C := fun w => w.cell? ⟨W1.heap.size, 0, none⟩ = some (.slice (some ⟨g, 0, none⟩) n cap)) (n := 10) _ _ _ _ ?_
      refine wpAnyK_take 1 (.slice (some ⟨g, 0, none⟩) n cap) rfl (by kernel_rfl) (fun _ _ _ h => h) m0 (And.intro (by rfl) ?hy1) ?_
      case hy1 => intro w' hw'; have hk1 : w'.cell? ⟨W1.heap.size, 0, none⟩ = some (.slice (some ⟨g, 0, none⟩) n cap) := hw'; go_simp; all_goals exact rfl
      simp only [Act.put, List.setIfInBounds_toArray, List.set_cons_succ, List.set_cons_zero]
      refine wpAnyK_take 4 (.slice (some ⟨g, 0, none⟩) n cap) rfl (by kernel_rfl) (fun _ _ _ h => h) m0 (And.intro (by rfl) ?hy4) ?_
      case hy4 => intro w' hw'; have hk1 : w'.cell? ⟨W1.heap.size, 0, none⟩ = some (.slice (some ⟨g, 0, none⟩) n cap) := hw'; go_simp; all_goals exact rfl
      simp only [Act.put, List.setIfInBounds_toArray, List.set_cons_succ, List.set_cons_zero]
      refine wpAnyK_take 5 (.int .i64 n) rfl (by kernel_rfl) (fun _ _ _ h => h) m0 (And.intro (by rfl) ?hy5) ?_
      case hy5 => intro w' hw'; clear hw'; go_simp; all_goals exact rfl
      simp only [Act.put, List.setIfInBounds_toArray, List.set_cons_succ, List.set_cons_zero]
      refine wpAnyK_two (i := 6) (k := 8) (by kernel_rfl) rfl rfl (by omega) (by omega) (fun K hK => ?_) (fun K hK => ?_)
      · go_simp
        refine (pick_any w0 br (N + 501) n _ (by omega) (by omega) (by omega) (HR2.out.grow ((Ext.refl W2).drew))).mono ?_
        rintro e W3 ⟨u, u0, u1, rfl, hR3, hK3⟩
        have hK3 : Keep (fun k => k ≠ br) W2 W3 := (((Ext.refl W2).drew).keep _).trans hK3
        obtain ⟨u, rfl⟩ : ∃ k : Nat, u = k := ⟨u.toNat, by omega⟩
        refine hK _ _ ((hK3.cell (p := ⟨W1.heap.size, 0, none⟩) hs2 hne).trans m0) ?_
        clear hK K
        refine wpAnyK_one (i := 8) (by kernel_rfl) rfl (by omega) (fun K hK => ?_)
        go_simp
        have hK3a : Keep (fun k => k ≠ br) W2 (W3.alloc (.cells #[.int .i64 (-1), .int .i64 64, .int .i64 0] 3)) := hK3.trans (((Ext.refl W3).alloc _).keep _)
        refine hK _ _ ((hK3a.cell (p := ⟨W1.heap.size, 0, none⟩) hs2 hne).trans m0) ?_
        clear hK K
        refine wpAnyK_one (i := 9) (by kernel_rfl) rfl (by omega) (fun K hK => ?_)
        go_simp
        refine (one_any w0 br (N + 502) (-1) 64 W3.heap.size 3 3 _ (by omega) (by omega) (by omega) (hR3.grow ((Ext.refl W3).alloc _)) (by simp) (by have := hK3.size; omega) (newL12 W3 3 [-1, 64, 0] (by intro x hx; simp at hx; omega)) (Nat.le_refl _)).mono ?_
        rintro e W5 ⟨z, zz0, zz1, rfl, hR5, hK5⟩
        have HK5 := hide (hK3a.trans hK5)
        have HR5 := hide hR5
        refine hK _ _ ((HK5.out.cell (p := ⟨W1.heap.size, 0, none⟩) hs2 hne).trans m0) ?_
        clear hK K hR3 hK3 hK3a hR5 hK5
        have hK5 := HK5.out
        have m05 := (hK5.cell (p := ⟨W1.heap.size, 0, none⟩) hs2 hne).trans m0
        have m15 := (hK5.cell (p := ⟨W1.heap.size, 1, none⟩) hs2 hne).trans m1
        have hs5 := hK5.size
        have hmf5 := HMF2.out.keep hK5 (fun k hk => by omega)
        obtain ⟨⟨x, fx, -, -⟩, fz⟩ := hmf5.ds.cell (i := u) (by omega)
        have hgl5 : g < W5.heap.size := by have := hmf5.bw; omega
        have HMF5 := hide hmf5
        have HRB5 := hide (HRB2.out.keep hK5 (by omega))
        have HKW5 := hide (HK2.out.trans hK5)
        clear hmf5 hK5 HK5 m0 m1
        refine wpAnyK_fin 10 [11] (by omega) (by kernel_rfl) ?_
        simp only [nths, nth1]
        go_wp2_with fail
        go_meet
        have hk := (Keep.refl (fun k => k ≠ g) W5).set (p := ⟨g, u, none⟩) (fun _ hh => hh rfl) (.int .i64 z)
        refine ⟨rfl, Nat.lt_of_lt_of_le (by omega) hk.size, (World.cell?_setCell_other _ _ _ _ (by first | (simp; done) | (simp; omega))).trans m05, (World.cell?_setCell_other _ _ _ _ (by first | (simp; done) | (simp; omega))).trans m15, cs, rfl, ⟨hn1, hn4, HMF5.out.ds.set u z ⟨by omega, by omega⟩, HMF5.out.db, HMF5.out.ca.keep hk (fun k hk => by omega) (fun k hk => by omega), HMF5.out.ab, Nat.le_trans HMF5.out.bw hk.size⟩, (HR5.out.mono (by omega)).keep hk (by omega) (fun k hk => by omega), HRB5.out.keep hk (by omega), HKW5.out.trans9 hk (fun k hk _ => by omega)⟩
      · go_simp
        have hXa : Ext W2 ((W2.alloc (.cells #[.int .i64 (-1), .int .i64 64, .int .i64 0] 3)).drew) := ((Ext.refl W2).alloc _).drew
        refine hK _ _ ((hXa.cells _ _ hs2).trans m0) ?_
        clear hK K
        refine wpAnyK_one (i := 6) (by kernel_rfl) rfl (by omega) (fun K hK => ?_)
        go_simp
        refine (pick_any w0 br (N + 501) n _ (by omega) (by omega) (by omega) (HR2.out.grow hXa)).mono ?_
        rintro e W3 ⟨u, u0, u1, rfl, hR3, hK3⟩
        have hK3a : Keep (fun k => k ≠ br) W2 W3 := (hXa.keep _).trans hK3
        obtain ⟨u, rfl⟩ : ∃ k : Nat, u = k := ⟨u.toNat, by omega⟩
        refine hK _ _ ((hK3a.cell (p := ⟨W1.heap.size, 0, none⟩) hs2 hne).trans m0) ?_
        clear hK K
        refine wpAnyK_one (i := 9) (by kernel_rfl) rfl (by omega) (fun K hK => ?_)
        go_simp
        have hlt2 : W2.heap.size < W3.heap.size := by have := hK3.size; have h2 : (W2.alloc (.cells #[.int .i64 (-1), .int .i64 64, .int .i64 0] 3)).drew.heap.size = W2.heap.size + 1 := by show (W2.alloc _).heap.size = _; simp
                                                      omega
        refine (one_any w0 br (N + 502) (-1) 64 W2.heap.size 3 3 _ (by omega) (by omega) (by omega) hR3 hlt2 (by omega) (fun j hj => ?_) (Nat.le_refl _)).mono ?_
        · obtain ⟨x, q1, q2⟩ := newL12 W2 3 [-1, 64, 0] (lo := -1) (hi := 64) (by intro x hx; simp at hx; omega) j hj
          exact ⟨x, (hK3.cell (p := ⟨W2.heap.size, j, none⟩) (by show _ < (W2.alloc _).heap.size; simp) (by show W2.heap.size ≠ br; omega)).trans q1, q2⟩
        rintro e W5 ⟨z, zz0, zz1, rfl, hR5, hK5⟩
        have HK5 := hide (hK3a.trans hK5)
        have HR5 := hide hR5
        refine hK _ _ ((HK5.out.cell (p := ⟨W1.heap.size, 0, none⟩) hs2 hne).trans m0) ?_
        clear hK K hR3 hK3 hK3a hR5 hK5
        have hK5 := HK5.out
        have m05 := (hK5.cell (p := ⟨W1.heap.size, 0, none⟩) hs2 hne).trans m0
        have m15 := (hK5.cell (p := ⟨W1.heap.size, 1, none⟩) hs2 hne).trans m1
        have hs5 := hK5.size
        have hmf5 := HMF2.out.keep hK5 (fun k hk => by omega)
        obtain ⟨⟨x, fx, -, -⟩, fz⟩ := hmf5.ds.cell (i := u) (by omega)
        have hgl5 : g < W5.heap.size := by have := hmf5.bw; omega
        have HMF5 := hide hmf5
        have HRB5 := hide (HRB2.out.keep hK5 (by omega))
        have HKW5 := hide (HK2.out.trans hK5)
        clear hmf5 hK5 HK5 m0 m1
        refine wpAnyK_fin 10 [11] (by omega) (by kernel_rfl) ?_
        simp only [nths, nth1]
        go_wp2_with fail
        go_meet
        have hk := (Keep.refl (fun k => k ≠ g) W5).set (p := ⟨g, u, none⟩) (fun _ hh => hh rfl) (.int .i64 z)
        refine ⟨rfl, Nat.lt_of_lt_of_le (by omega) hk.size, (World.cell?_setCell_other _ _ _ _ (by first | (simp; done) | (simp; omega))).trans m05, (World.cell?_setCell_other _ _ _ _ (by first | (simp; done) | (simp; omega))).trans m15, cs, rfl, ⟨hn1, hn4, HMF5.out.ds.set u z ⟨by omega, by omega⟩, HMF5.out.db, HMF5.out.ca.keep hk (fun k hk => by omega) (fun k hk => by omega), HMF5.out.ab, Nat.le_trans HMF5.out.bw hk.size⟩, (HR5.out.mono (by omega)).keep hk (by omega) (fun k hk => by omega), HRB5.out.keep hk (by omega), HKW5.out.trans9 hk (fun k hk _ => by omega)⟩
    · have hb0 : (y == 0) = false := by simp [hy0]
      by_cases hy1 : y = 1
      · subst hy1
        by_cases hc0 : cs.length = 0
        · go_wp2_with fail
          go_meet
          exact ⟨rfl, hs2, m0, m1, cs, rfl, HMF2.out, HR2.out.mono (by omega), HRB2.out, HK2.out⟩
        · have hcI : 0 < (cs.length : Int) := by omega
          rcases HMF2.out.ca with ⟨-, h0⟩ | ⟨h, cap', F, hcv, hhB, hhc, hrow, hc5⟩
          · rw [h0] at hc0; exact absurd rfl hc0
          injection hcv with hcv _ hcc
          subst hcv
          subst hcc
          have hhne : h ≠ W1.heap.size := by have := HAc.out h rfl; omega
          have hle : cs.length * 5 ≤ ec * 5 := Nat.mul_le_mul_right _ hhc
          have HROW := hide hrow
          have HC5 := hide hc5
          clear hrow hc5
          go_wp2_with fail
          refine (pick_any w0 br (N + 501) cs.length _ (by omega) (by omega) (by omega) HR2.out).mono ?_
          rintro e W3 ⟨u, u0, u1, rfl, hR3, hK3⟩
          obtain ⟨u, rfl⟩ : ∃ k : Nat, u = k := ⟨u.toNat, by omega⟩
          have hs3 := hK3.size
          have hul : u < cs.length := by omega
          have m03 := (hK3.cell (p := ⟨W1.heap.size, 0, none⟩) hs2 hne).trans m0
          have m13 := (hK3.cell (p := ⟨W1.heap.size, 1, none⟩) hs2 hne).trans m1
          have hrow3 := hK3.row (show h ≠ br by omega) HROW.out
          obtain ⟨vv, va, vr, f0, f1, f2, f3, f4, i1, i2, i3, hlen⟩ := (HC5.out u hul).keep hK3 (fun k hk => by omega)
          obtain ⟨E1, d1, hv1, -⟩ := i1.form
          obtain ⟨E2, d2, hv2, -⟩ := i2.form
          obtain ⟨E3, d3, hv3, -⟩ := i3.1.form
          subst hv1 hv2 hv3
          have k0 := (hrow3.cell (i := u * 5) (by omega)).trans f0
          have k1 := (hrow3.cell (i := u * 5 + 1) (by omega)).trans f1
          have k2 := (hrow3.cell (i := u * 5 + 2) (by omega)).trans f2
          have k3 := (hrow3.cell (i := u * 5 + 3) (by omega)).trans f3
          have k4 := (hrow3.cell (i := u * 5 + 4) (by omega)).trans f4
          have hhl := hrow3.lt
          have hhbr : h ≠ br := by omega
          have HMF3 := hide (HMF2.out.keep hK3 (fun k hk => by omega))
          have HRB3 := hide (HRB2.out.keep hK3 (by omega))
          have HR3 := hide hR3
          have HK3 := hide (HK2.out.trans hK3)
          have HCV := hide (show CV (fun k => B ≤ k) W3 (.agg #[.int .i64 (con0 cs u).kk, .slice E1 (con0 cs u).vars.length d1, .slice E2 (con0 cs u).args.length d2, .int .i64 (con0 cs u).bound, .slice E3 (con0 cs u).rows.length d3]) (con0 cs u) from ⟨_, _, _, rfl, i1, i2, i3⟩)
          clear hrow3 f0 f1 f2 f3 f4 i1 i2 i3 hlen hR3 hK3 HROW HC5
          go_upto_region 8 with fail
          refine wp_region_any (by kernel_rfl) ?_
          change wpAny _ _ _ _ _ _ _ (World.drew _)
          refine wpAny_take (i := 0) (v := ?_) rfl (by kernel_rfl) (by kernel_rfl) (by kernel_rfl) (by first | exact fun _ _ _ h => h | (rintro _ _ _ ⟨h, _⟩; cases h)) (Or.inl ⟨by rfl, ?hy0⟩) ?_
          case hy0 => intro w; go_simp; with_reducible rfl
          simp only [Act.put, List.getElem_toArray, List.getElem_cons_zero, List.setIfInBounds_toArray, List.set_cons_succ, List.set_cons_zero]
          refine wpAny_take (i := 2) (v := ?_) rfl (by kernel_rfl) (by kernel_rfl) (by kernel_rfl) (by first | exact fun _ _ _ h => h | (rintro _ _ _ ⟨h, _⟩; cases h)) (Or.inl ⟨by rfl, ?hy2⟩) ?_
          case hy2 => intro w; go_simp; with_reducible rfl
          simp only [Act.put, List.getElem_toArray, List.getElem_cons_zero, List.getElem_cons_succ, List.setIfInBounds_toArray, List.set_cons_succ, List.set_cons_zero]
          refine wpAny_take (i := 3) (v := ?_) rfl (by kernel_rfl) (by kernel_rfl) (by kernel_rfl) (by first | exact fun _ _ _ h => h | (rintro _ _ _ ⟨h, _⟩; cases h)) (Or.inl ⟨by rfl, ?hy3⟩) ?_
          case hy3 => intro w; go_simp; with_reducible rfl
          simp only [Act.put, List.getElem_toArray, List.getElem_cons_zero, List.getElem_cons_succ, List.setIfInBounds_toArray, List.set_cons_succ, List.set_cons_zero]
          refine wpAny_take (i := 4) (v := ?_) rfl (by kernel_rfl) (by kernel_rfl) (by kernel_rfl) (by first | exact fun _ _ _ h => h | (rintro _ _ _ ⟨h, _⟩; cases h)) (Or.inl ⟨by rfl, ?hy4⟩) ?_
          case hy4 => intro w; go_simp; with_reducible rfl
          simp only [Act.put, List.getElem_toArray, List.getElem_cons_zero, List.getElem_cons_succ, List.setIfInBounds_toArray, List.set_cons_succ, List.set_cons_zero]
          refine wpAny_take (i := 6) (v := ?_) rfl (by kernel_rfl) (by kernel_rfl) (by kernel_rfl) (by first | exact fun _ _ _ h => h | (rintro _ _ _ ⟨h, _⟩; cases h)) (Or.inl ⟨by rfl, ?hy6⟩) ?_
          case hy6 => intro w; go_simp; with_reducible rfl
          simp only [Act.put, List.getElem_toArray, List.getElem_cons_zero, List.getElem_cons_succ, List.setIfInBounds_toArray, List.set_cons_succ, List.set_cons_zero]
          refine wpAny_ofK (C := fun w => w.cell? ⟨W1.heap.size, 1, none⟩ = some (.slice (some ⟨h, 0, none⟩) cs.length ec) ∧ w.cell? ⟨h, u * 5, none⟩ = some (.int .i64 (con0 cs u).kk) ∧ w.cell? ⟨h, u * 5 + 1, none⟩ = some (.slice E1 (con0 cs u).vars.length d1) ∧ w.cell? ⟨h, u * 5 + 2, none⟩ = some (.slice E2 (con0 cs u).args.length d2) ∧ w.cell? ⟨h, u * 5 + 3, none⟩ = some (.int .i64 (con0 cs u).bound) ∧ w.cell? ⟨h, u * 5 + 4, none⟩ = some (.slice E3 (con0 cs u).rows.length d3)) (n := 10) _ _ _ _ ?_
          refine wpAnyK_take 1 (.slice (some ⟨h, 0, none⟩) cs.length ec) rfl (by kernel_rfl) (fun _ _ _ h => h) ⟨m13, k0, k1, k2, k3, k4⟩ (And.intro (by rfl) ?hy1) ?_
          case hy1 => intro w' hw'; obtain ⟨hk1, hk2, hk3, hk4, hk5, hk6⟩ : w'.cell? ⟨W1.heap.size, 1, none⟩ = some (.slice (some ⟨h, 0, none⟩) cs.length ec) ∧ w'.cell? ⟨h, u * 5, none⟩ = some (.int .i64 (con0 cs u).kk) ∧ w'.cell? ⟨h, u * 5 + 1, none⟩ = some (.slice E1 (con0 cs u).vars.length d1) ∧ w'.cell? ⟨h, u * 5 + 2, none⟩ = some (.slice E2 (con0 cs u).args.length d2) ∧ w'.cell? ⟨h, u * 5 + 3, none⟩ = some (.int .i64 (con0 cs u).bound) ∧ w'.cell? ⟨h, u * 5 + 4, none⟩ = some (.slice E3 (con0 cs u).rows.length d3) := hw'; go_simp; all_goals exact rfl
          simp only [Act.put, List.setIfInBounds_toArray, List.set_cons_succ, List.set_cons_zero]
          refine wpAnyK_take 5 (.slice (some ⟨h, 0, none⟩) cs.length ec) rfl (by kernel_rfl) (fun _ _ _ h => h) ⟨m13, k0, k1, k2, k3, k4⟩ (And.intro (by rfl) ?hy5) ?_
          case hy5 => intro w' hw'; obtain ⟨hk1, hk2, hk3, hk4, hk5, hk6⟩ : w'.cell? ⟨W1.heap.size, 1, none⟩ = some (.slice (some ⟨h, 0, none⟩) cs.length ec) ∧ w'.cell? ⟨h, u * 5, none⟩ = some (.int .i64 (con0 cs u).kk) ∧ w'.cell? ⟨h, u * 5 + 1, none⟩ = some (.slice E1 (con0 cs u).vars.length d1) ∧ w'.cell? ⟨h, u * 5 + 2, none⟩ = some (.slice E2 (con0 cs u).args.length d2) ∧ w'.cell? ⟨h, u * 5 + 3, none⟩ = some (.int .i64 (con0 cs u).bound) ∧ w'.cell? ⟨h, u * 5 + 4, none⟩ = some (.slice E3 (con0 cs u).rows.length d3) := hw'; go_simp; all_goals exact rfl
          simp only [Act.put, List.setIfInBounds_toArray, List.set_cons_succ, List.set_cons_zero]
          refine wpAnyK_take 7 (.pointer (some ⟨h, u * 5, none⟩)) rfl (by kernel_rfl) (fun _ _ _ h => h) ⟨m13, k0, k1, k2, k3, k4⟩ (And.intro (by rfl) ?hy7) ?_
          case hy7 => intro w' hw'; clear hw'; go_simp; all_goals exact rfl
          simp only [Act.put, List.setIfInBounds_toArray, List.set_cons_succ, List.set_cons_zero]
          refine wpAnyK_take 8 (.agg #[.int .i64 (con0 cs u).kk, .slice E1 (con0 cs u).vars.length d1, .slice E2 (con0 cs u).args.length d2, .int .i64 (con0 cs u).bound, .slice E3 (con0 cs u).rows.length d3]) rfl (by kernel_rfl) (fun _ _ _ h => h) ⟨m13, k0, k1, k2, k3, k4⟩ (And.intro (by rfl) ?hy8) ?_
          case hy8 => intro w' hw'; obtain ⟨hk1, hk2, hk3, hk4, hk5, hk6⟩ : w'.cell? ⟨W1.heap.size, 1, none⟩ = some (.slice (some ⟨h, 0, none⟩) cs.length ec) ∧ w'.cell? ⟨h, u * 5, none⟩ = some (.int .i64 (con0 cs u).kk) ∧ w'.cell? ⟨h, u * 5 + 1, none⟩ = some (.slice E1 (con0 cs u).vars.length d1) ∧ w'.cell? ⟨h, u * 5 + 2, none⟩ = some (.slice E2 (con0 cs u).args.length d2) ∧ w'.cell? ⟨h, u * 5 + 3, none⟩ = some (.int .i64 (con0 cs u).bound) ∧ w'.cell? ⟨h, u * 5 + 4, none⟩ = some (.slice E3 (con0 cs u).rows.length d3) := hw'; go_simp; all_goals exact rfl
          simp only [Act.put, List.setIfInBounds_toArray, List.set_cons_succ, List.set_cons_zero]
          refine wpAnyK_one (i := 9) (by kernel_rfl) rfl (by omega) (fun K hK => ?_)
          go_simp
          obtain ⟨wo, hwo, hcut⟩ := Keep.cut W3 (B := B) (by omega)
          refine (damage_any w0 wo br (N + 502) _ _ (con0 cs u) (by omega) (HR3.out.grow ((Ext.refl W3).drew)) ((hcut _).trans (((Ext.refl W3).drew).keep _)) (by omega) (by omega) ?_ (HL9.out u hul)).mono ?_
          · rw [hwo]
            obtain ⟨q0, q1, q2, q3, q4, q5, q6⟩ := HCV.out
            exact ⟨q0, q1, q2, q3, q4.ext ((Ext.refl W3).drew), q5.ext ((Ext.refl W3).drew), q6.ext ((Ext.refl W3).drew)⟩
          rintro e W5 ⟨v', c', rfl, hlen', hcv', hR5, hK5⟩
          rw [hwo] at hcv'
          have hK5 : Keep (fun k => k ≠ br) W3 W5 := (((Ext.refl W3).drew).keep _).trans hK5
          obtain ⟨vv, va, vr, rfl, i1, i2, i3⟩ := hcv'
          obtain ⟨G1, x1, hv1, -⟩ := i1.form
          obtain ⟨G2, x2, hv2, -⟩ := i2.form
          obtain ⟨G3, x3, hv3, -⟩ := i3.1.form
          subst hv1 hv2 hv3
          have hs23 : W1.heap.size < W3.heap.size := by omega
          have m05 := (hK5.cell (p := ⟨W1.heap.size, 0, none⟩) hs23 hne).trans m03
          have m15 := (hK5.cell (p := ⟨W1.heap.size, 1, none⟩) hs23 hne).trans m13
          have g0 := (hK5.cell (p := ⟨h, u * 5, none⟩) hhl hhbr).trans k0
          have g1 := (hK5.cell (p := ⟨h, u * 5 + 1, none⟩) hhl hhbr).trans k1
          have g2 := (hK5.cell (p := ⟨h, u * 5 + 2, none⟩) hhl hhbr).trans k2
          have g3 := (hK5.cell (p := ⟨h, u * 5 + 3, none⟩) hhl hhbr).trans k3
          have g4 := (hK5.cell (p := ⟨h, u * 5 + 4, none⟩) hhl hhbr).trans k4
          refine hK _ _ ⟨m15, g0, g1, g2, g3, g4⟩ ?_
          clear hK K
          have hs5 := hK5.size
          have hmf5 := HMF3.out.keep hK5 (fun k hk => by omega)
          have hfr : ∀ i, W5.frozen? ⟨h, i, none⟩ = false := by
            rcases hmf5.ca with ⟨h0, -⟩ | ⟨h', cap', F', hcv, -, -, hrow, -⟩
            · cases h0
            · injection hcv with hcv _ _
              injection hcv with hcv
              injection hcv with hcv _
              subst hcv
              exact fun i => hrow.frozen _
          have z0 := hfr (u * 5)
          have z1 := hfr (u * 5 + 1)
          have z2 := hfr (u * 5 + 2)
          have z3 := hfr (u * 5 + 3)
          have z4 := hfr (u * 5 + 4)
          have hhl5 : h < W5.heap.size := by omega
          have HMF5 := hide hmf5
          have HRB5 := hide (HRB3.out.keep hK5 (by omega))
          have HKW5 := hide (HK3.out.trans hK5)
          have HR5 := hide hR5
          have HNEW := hide (show CV5 100 (fun k => B ≤ k) W5 (fun j => [Value.int .i64 c'.kk, .slice G1 c'.vars.length x1, .slice G2 c'.args.length x2, .int .i64 c'.bound, .slice G3 c'.rows.length x3][j]?) c' from ⟨_, _, _, rfl, rfl, rfl, rfl, rfl, i1, i2, i3, hlen'⟩)
          clear hfr hmf5 hK5 hR5 m0 m1 m03 m13 k0 k1 k2 k3 k4 i1 i2 i3 hcut
          refine wpAnyK_fin 10 [11] (by omega) (by kernel_rfl) ?_
          simp only [nths, nth1]
          go_wp2_with fail
          go_meet
          have hk : Keep (fun k => k ≠ h) W5 (((((W5.setCell ⟨h, u * 5, none⟩ (.int .i64 c'.kk)).setCell ⟨h, u * 5 + 1, none⟩ (.slice G1 c'.vars.length x1)).setCell ⟨h, u * 5 + 2, none⟩ (.slice G2 c'.args.length x2)).setCell ⟨h, u * 5 + 3, none⟩ (.int .i64 c'.bound)).setCell ⟨h, u * 5 + 4, none⟩ (.slice G3 c'.rows.length x3)) := by
            repeat refine Keep.set ?_ (fun _ hh => hh rfl) _
            exact Keep.refl _ _
          exact ⟨rfl, Nat.lt_of_lt_of_le (by omega) hk.size, (hk.cell (p := ⟨W1.heap.size, 0, none⟩) (by show W1.heap.size < _; omega) (by show W1.heap.size ≠ h; exact fun e => hhne e.symm)).trans m05, (hk.cell (p := ⟨W1.heap.size, 1, none⟩) (by show W1.heap.size < _; omega) (by show W1.heap.size ≠ h; exact fun e => hhne e.symm)).trans m15, cs.set u c', by rw [List.length_set], ⟨hn1, hn4, HMF5.out.ds.keepb hk (fun g' hg' => by have := HMF5.out.db g' hg'; omega), HMF5.out.db, HMF5.out.ca.set hul HNEW.out, HMF5.out.ab, Nat.le_trans HMF5.out.bw hk.size⟩, (HR5.out.mono (by omega)).keep hk (by omega) (fun k hk => by omega), HRB5.out.keep hk (by omega), HKW5.out.trans9 hk (fun k hk _ => by omega)⟩
      · have hb1 : (y == 1) = false := by simp [hy1]
        go_wp2_with fail
        go_meet
        exact ⟨rfl, hs2, m0, m1, cs, rfl, HMF2.out, HR2.out.mono (by omega), HRB2.out, HK2.out⟩
  case rest =>
    clear m0 m1 HMF2 HR2 HRB2 HK2
    obtain ⟨rfl, hsx, m0, m1, cs', hcl, hmf, hrd, hrb, hk⟩ := hcut
    obtain ⟨hrb1, u0, u1, r0, r1, z0, z1⟩ := hrb.two
    have HMF := hide hmf
    have HRD := hide hrd
    have HK := hide hk
    clear hmf hrd hk hrb
    go_wp2_with fail
    refine bodyPost_ret (v := .agg #[.slice (some ⟨g, 0, none⟩) n cap, .slice Ac cs.length ec]) (by simp only [results, Tryz.results26]; go_simp) rfl ?_
    have hk1 : Keep (fun k => k ≠ W.heap.size) wc ((wc.setCell ⟨W.heap.size, 0, none⟩ (.slice (some ⟨g, 0, none⟩) n cap)).setCell ⟨W.heap.size, 1, none⟩ (.slice Ac cs.length ec)) :=
      ((Keep.refl (fun k => k ≠ W.heap.size) wc).set (p := ⟨W.heap.size, 0, none⟩) (fun _ hh => hh rfl) _).set (p := ⟨W.heap.size, 1, none⟩) (fun _ hh => hh rfl) _
    exact ⟨_, _, n, cs', B, rfl, (HMF.out.keep hk1 (fun k hk => by omega)).mono (by omega) (by omega) (by omega), by omega, HRD.out.keep hk1 (by omega) (fun k hk => by omega), HK.out.trans9 hk1 (fun k hk _ => by omega)⟩
end Go.Proofs.YtalgilgfoekioaaGreatDoor
