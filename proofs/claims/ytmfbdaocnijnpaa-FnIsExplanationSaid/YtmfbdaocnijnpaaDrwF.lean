/- Draws of the generator: a list of constraints in the making. -/
import Derived.Test.YtmfbdaocnijnpaaDrwE
import Derived.Deep.CutBlock
import Derived.Deep.DeepCutAuto
import Derived.Test.YtmfbdaocnijnpaaFltZ
namespace Go.Proofs.Ytmfbdaocnijnpaa
open Go.RowKit

theorem Try.infoCd : (Try.prog.info? 26).map (fun i => (i.zero, i.size, i.bytes)) = some (some (.agg #[.int .i64 0, .slice none 0 0, .slice none 0 0, .int .i64 0, .slice none 0 0]), 5, 88) := by kernel_rfl
/-- Block g holds constraints. -/
def HasC (w : World) (g : Nat) : Prop := ∃ cur, w.heap[g]? = some (.cells cur 26 (0, 0))
theorem RowW.notC {w : World} {v : Value} {xs : List Int} (h : RowW w v xs) {g : Nat} (hg : HasC w g) : v.ownBlock ≠ some g := by
  obtain ⟨b, cap, m, f, rfl, -, -, ⟨cur, k1, -⟩, -⟩ := h
  obtain ⟨cur', k2⟩ := hg
  intro e
  have e : some b = some g := e
  injection e with e
  subst e
  rw [k1] at k2
  injection k2 with k2
  injection k2 with _ k3
  cases k3
theorem IV.apart {S : Nat → Prop} {w : World} {v : Value} {xs : List Int} (h : IV S w v xs) {g : Nat} (hg : HasC w g) : IV (fun k => S k ∧ k ≠ g) w v xs := by
  refine ⟨h.1, fun b hb => ⟨h.2.1 b hb, ?_⟩, h.2.2⟩
  rintro rfl
  rcases h.1 with ⟨rfl, -⟩ | h1
  · cases hb
  · exact h1.notC hg hb
theorem RV.apart {S : Nat → Prop} {w : World} {v : Value} {rs : List (List Int)} (h : RV S w v rs) {g : Nat} (hg : HasC w g) : RV (fun k => S k ∧ k ≠ g) w v rs := by
  obtain ⟨⟨cells, h1, h2, h3⟩, h4⟩ := h
  refine ⟨⟨cells, h1, fun b hb => ⟨h2 b hb, ?_⟩, fun i hi => ?_⟩, h4⟩
  · rintro rfl
    obtain ⟨cur', k2⟩ := hg
    rcases h1.2 with ⟨e, -⟩ | ⟨g', cap, cur, e, -, k1, -⟩
    · rw [e] at hb; cases hb
    · rw [e] at hb
      have hb : some g' = some b := hb
      injection hb with hb
      subst hb
      rw [k1] at k2
      injection k2 with k2
      injection k2 with _ k3
      cases k3
  · obtain ⟨cv, q1, q2, q3⟩ := h3 i hi
    exact ⟨cv, q1, q2, fun b hb => ⟨q3 b hb, fun e => q2.notC hg (e ▸ hb)⟩⟩
/-- What five values read as. -/
def CV5 (L : Nat) (S : Nat → Prop) (w : World) (F : Nat → Option Value) (c : Con) : Prop :=
  ∃ vv va vr, F 0 = some (.int .i64 c.kk) ∧ F 1 = some vv ∧ F 2 = some va ∧ F 3 = some (.int .i64 c.bound) ∧ F 4 = some vr ∧ IV S w vv c.vars ∧ IV S w va c.args ∧ RV S w vr c.rows ∧ (0 < c.vars.length ∧ c.vars.length ≤ L ∧ c.args.length ≤ L)
theorem CV5.wide {L M : Nat} {S : Nat → Prop} {w : World} {F : Nat → Option Value} {c : Con} (h : CV5 L S w F c) (hL : L ≤ M) : CV5 M S w F c := by
  obtain ⟨vv, va, vr, e0, e1, e2, e3, e4, h1, h2, h3, h4⟩ := h
  exact ⟨vv, va, vr, e0, e1, e2, e3, e4, h1, h2, h3, by omega⟩
theorem CV5.keep {L : Nat} {S T : Nat → Prop} {w w' : World} {F : Nat → Option Value} {c : Con} (h : CV5 L S w F c) (hk : Keep T w w') (hS : ∀ k, S k → T k) : CV5 L S w' F c := by
  obtain ⟨vv, va, vr, e0, e1, e2, e3, e4, h1, h2, h3, h4⟩ := h
  exact ⟨vv, va, vr, e0, e1, e2, e3, e4, h1.keep hk hS, h2.keep hk hS, h3.keep hk hS, h4⟩
theorem CV5.mono {L : Nat} {S T : Nat → Prop} {w : World} {F : Nat → Option Value} {c : Con} (h : CV5 L S w F c) (hS : ∀ k, S k → T k) : CV5 L T w F c := by
  obtain ⟨vv, va, vr, e0, e1, e2, e3, e4, h1, h2, h3, h4⟩ := h
  exact ⟨vv, va, vr, e0, e1, e2, e3, e4, h1.mono hS, h2.mono hS, h3.mono hS, h4⟩
theorem CV5.apart {L : Nat} {S : Nat → Prop} {w : World} {F : Nat → Option Value} {c : Con} (h : CV5 L S w F c) {g : Nat} (hg : HasC w g) : CV5 L (fun k => S k ∧ k ≠ g) w F c := by
  obtain ⟨vv, va, vr, e0, e1, e2, e3, e4, h1, h2, h3, h4⟩ := h
  exact ⟨vv, va, vr, e0, e1, e2, e3, e4, h1.apart hg, h2.apart hg, h3.apart hg, h4⟩
theorem CV5.cast {L : Nat} {S : Nat → Prop} {w : World} {F G : Nat → Option Value} {c : Con} (h : CV5 L S w F c) (hFG : ∀ j, j < 5 → F j = G j) : CV5 L S w G c := by
  obtain ⟨vv, va, vr, e0, e1, e2, e3, e4, h⟩ := h
  exact ⟨vv, va, vr, (hFG 0 (by omega)).symm.trans e0, (hFG 1 (by omega)).symm.trans e1, (hFG 2 (by omega)).symm.trans e2, (hFG 3 (by omega)).symm.trans e3, (hFG 4 (by omega)).symm.trans e4, h⟩
/-- v is nil or a slice of the call's own whose cells read as the constraints cs; their lists lie in blocks that S names, v's own block is from base on. -/
def CA (L base : Nat) (S : Nat → Prop) (w : World) (v : Value) (cs : List Con) : Prop :=
  ∃ cells, w.ownsRow base 26 5 v cs.length cells ∧ ∀ i, i < cs.length → CV5 L S w (fun j => cells[i * 5 + j]?) (con0 cs i)
theorem CA.nil_ (L base : Nat) (S : Nat → Prop) (w : World) : CA L base S w (.slice none 0 0) [] := ⟨[], World.ownsRow_nil w base _ _, fun i hi => absurd hi (by simp)⟩
theorem CA.form {L base : Nat} {S : Nat → Prop} {w : World} {v : Value} {cs : List Con} (h : CA L base S w v cs) : ∃ A c, v = .slice A cs.length c ∧ cs.length ≤ c := by
  obtain ⟨cells, h, -⟩ := h
  rcases h.2 with ⟨h1, h2⟩ | ⟨g, cap, cur, h1, -, -, h2, -⟩
  · exact ⟨none, 0, by rw [h1, h2], by omega⟩
  · exact ⟨_, _, h1, h2⟩
theorem CA.keep {L base : Nat} {S T : Nat → Prop} {w w' : World} {v : Value} {cs : List Con} (h : CA L base S w v cs) (hk : Keep T w w') (hb : ∀ k, base ≤ k → T k) (hS : ∀ k, S k → T k) : CA L base S w' v cs := by
  obtain ⟨cells, h1, h2⟩ := h
  refine ⟨cells, ⟨h1.1, ?_⟩, fun i hi => (h2 i hi).keep hk hS⟩
  rcases h1.2 with hn | ⟨g, cap, cur, e, hbg, hgg, rest⟩
  · exact .inl hn
  · exact .inr ⟨g, cap, cur, e, hbg, (hk.block g (Array.getElem?_eq_some_iff.1 hgg).1 (hb g hbg)).trans hgg, rest⟩
theorem CA.wide {L M base : Nat} {S : Nat → Prop} {w : World} {v : Value} {cs : List Con} (h : CA L base S w v cs) (hL : L ≤ M) : CA M base S w v cs := by
  obtain ⟨cells, h1, h2⟩ := h
  exact ⟨cells, h1, fun i hi => (h2 i hi).wide hL⟩
theorem CA.ext {L base : Nat} {S : Nat → Prop} {w w' : World} {v : Value} {cs : List Con} (h : CA L base S w v cs) (hx : Ext w w') : CA L base S w' v cs := h.keep (hx.keep (fun _ => True)) (fun _ _ => trivial) (fun _ _ => trivial)
theorem IV.oneC {S : Nat → Prop} {w : World} {v : Value} {xs : List Int} (h : IV S w v xs) : v.oneCell' = true := by
  obtain ⟨A, c, rfl, -⟩ := h.form; rfl
theorem RV.oneC {S : Nat → Prop} {w : World} {v : Value} {rs : List (List Int)} (h : RV S w v rs) : v.oneCell' = true := by
  obtain ⟨A, c, rfl, -⟩ := h.1.form; rfl
/-- They read as constraints. -/
theorem CA.cons {L base : Nat} {S : Nat → Prop} {w : World} {v : Value} {cs : List Con} (h : CA L base S w v cs) (hl : cs.length ≤ 1000000) : SCons w v cs := by
  obtain ⟨cells, h1, h2⟩ := h
  rcases h1.2 with ⟨e1, e2⟩ | ⟨g, cap, cur, e1, hg, hh, hnc, hm, hcs, htk⟩
  · exact ⟨none, 0, by rw [e1, e2], by omega, by omega, fun hp => absurd hp (by omega)⟩
  · refine ⟨_, _, e1, hnc, by omega, fun _ => ⟨g, 0, rfl, (Array.getElem?_eq_some_iff.1 hh).1, fun i hi => ?_⟩⟩
    obtain ⟨vv, va, vr, e0, e1, e2, e3, e4, q1, q2, q3, -⟩ := h2 i hi
    have hcell : ∀ j u, j < 5 → cells[i * 5 + j]? = some u → w.cell? ⟨g, 0 + i * 5 + j, none⟩ = some u := by
      intro j u hj hu
      have e5 : (cur.toList.take (cs.length * 5))[i * 5 + j]? = cells[i * 5 + j]? := by rw [htk]
      rw [List.getElem?_take, if_pos (by omega), hu, Array.getElem?_toList] at e5
      simp [World.cell?, hh, e5]
    exact ⟨vv, va, vr, hcell 0 _ (by omega) e0, hcell 1 _ (by omega) e1, hcell 2 _ (by omega) e2, hcell 3 _ (by omega) e3, hcell 4 _ (by omega) e4, q1.ints, q2.ints, q3.rows⟩
end Go.Proofs.Ytmfbdaocnijnpaa
/- Draws of the generator: a model. -/
namespace Go.Proofs.Ytmfbdaocnijnpaa
open Go.RowKit

/-- A model that was drawn: its parts. -/
structure MV (L A B : Nat) (lo hi : Int) (w : World) (dv cv : Value) (n : Nat) (cs : List Con) : Prop where
  n1 : 1 ≤ n
  n4 : n ≤ 4
  ds : LR A 3 1 w dv n lo hi
  db : ∀ g, dv.ownBlock = some g → g < B
  ca : CA L B (fun k => B ≤ k) w cv cs
  ab : A ≤ B
  bw : B ≤ w.heap.size
theorem MV.keep {L A B : Nat} {lo hi : Int} {w w' : World} {dv cv : Value} {n : Nat} {cs : List Con} {S : Nat → Prop} (h : MV L A B lo hi w dv cv n cs) (hk : Keep S w w') (hS : ∀ k, A ≤ k → S k) : MV L A B lo hi w' dv cv n cs :=
  ⟨h.n1, h.n4, h.ds.keep hk hS, h.db, h.ca.keep hk (fun k hk => hS k (Nat.le_trans h.ab hk)) (fun k hk => hS k (Nat.le_trans h.ab hk)), h.ab, Nat.le_trans h.bw hk.size⟩
theorem MV.ext {L A B : Nat} {lo hi : Int} {w w' : World} {dv cv : Value} {n : Nat} {cs : List Con} (h : MV L A B lo hi w dv cv n cs) (hx : Ext w w') : MV L A B lo hi w' dv cv n cs := h.keep (hx.keep (fun _ => True)) (fun _ _ => trivial)
theorem MV.mono {L A A' B : Nat} {lo hi lo' hi' : Int} {w : World} {dv cv : Value} {n : Nat} {cs : List Con} (h : MV L A B lo hi w dv cv n cs) (hA : A' ≤ A) (hl : lo' ≤ lo) (hh : hi ≤ hi') : MV L A' B lo' hi' w dv cv n cs :=
  ⟨h.n1, h.n4, h.ds.mono hA hl hh, h.db, h.ca, Nat.le_trans hA h.ab, h.bw⟩
/-- A model came. -/
def MGot (L : Nat) (w0 : World) (br N : Nat) (lo hi : Int) (K : Nat) (W : World) (e : Ending) (W' : World) : Prop :=
  ∃ dv cv n cs B, e = .returned (.agg #[dv, cv]) ∧ MV L W.heap.size B lo hi W' dv cv n cs ∧ cs.length ≤ K ∧ RdSt w0 br N W' ∧ Keep (fun k => k ≠ br) W W'
theorem LR.keepb {base : Nat} {e : TypeId} {size : Nat} {w w' : World} {v : Value} {n : Nat} {lo hi : Int} {S : Nat → Prop} (h : LR base e size w v n lo hi) (hk : Keep S w w') (hS : ∀ g, v.ownBlock = some g → S g) : LR base e size w' v n lo hi := by
  obtain ⟨g, cap, f, h1, h2, h3, h3', h4, h5⟩ := h
  exact ⟨g, cap, f, h1, h2, h3, h3', hk.row (hS g (by rw [h1]; rfl)) h4, h5⟩
/-- A model in the making, in block mc; the block of the result beside it. -/
structure MB (w0 : World) (br rb mc N : Nat) (W wr : World) (dv cv : Value) : Prop where
  c0 : wr.cell? ⟨mc, 0, none⟩ = some dv
  c1 : wr.cell? ⟨mc, 1, none⟩ = some cv
  fz : ∀ i, wr.frozen? ⟨mc, i, none⟩ = false
  r : RB rb 2 wr
  rd : RdSt w0 br N wr
  kp : Keep (fun k => k ≠ br) W wr
  b0 : W.heap.size ≤ mc
  b1 : mc < wr.heap.size
  r0 : W.heap.size ≤ rb
  ne : rb ≠ mc
  br0 : br < W.heap.size
  w00 : w0.heap.size ≤ W.heap.size
theorem MB.keep {w0 : World} {br rb mc N M : Nat} {W wr w2 : World} {dv cv : Value} (h : MB w0 br rb mc N W wr dv cv) (hR : RdSt w0 br M w2) (hK : Keep (fun k => k ≠ br) wr w2) : MB w0 br rb mc M W w2 dv cv := by
  have b0 := h.b0
  have r0 := h.r0
  have br0 := h.br0
  exact ⟨(hK.cell (p := ⟨mc, 0, none⟩) h.b1 (by show mc ≠ br; omega)).trans h.c0, (hK.cell (p := ⟨mc, 1, none⟩) h.b1 (by show mc ≠ br; omega)).trans h.c1, fun i => (hK.frz (p := ⟨mc, i, none⟩) h.b1 (by show mc ≠ br; omega)).trans (h.fz i),
    h.r.keep hK (by omega), hR, h.kp.trans hK, b0, Nat.lt_of_lt_of_le h.b1 hK.size, r0, h.ne, br0, h.w00⟩
theorem MB.mono {w0 : World} {br rb mc N M : Nat} {W wr : World} {dv cv : Value} (h : MB w0 br rb mc N W wr dv cv) (hN : N ≤ M) : MB w0 br rb mc M W wr dv cv := h.keep (h.rd.mono hN) (Keep.refl _ _)
theorem MB.grow {w0 : World} {br rb mc N : Nat} {W wr w2 : World} {dv cv : Value} (h : MB w0 br rb mc N W wr dv cv) (hx : Ext wr w2) : MB w0 br rb mc N W w2 dv cv := h.keep (h.rd.grow hx) (hx.keep _)
theorem MB.far {w0 : World} {br rb mc N base : Nat} {W wr w2 : World} {dv cv : Value} (h : MB w0 br rb mc N W wr dv cv) (hk : Keep (fun k => k < base) wr w2) (h1 : mc < base) (h2 : rb < base) : MB w0 br rb mc N W w2 dv cv := by
  have b0 := h.b0
  have br0 := h.br0
  have hw0 := h.w00
  exact ⟨(hk.cell (p := ⟨mc, 0, none⟩) h.b1 h1).trans h.c0, (hk.cell (p := ⟨mc, 1, none⟩) h.b1 h1).trans h.c1, fun i => (hk.frz (p := ⟨mc, i, none⟩) h.b1 h1).trans (h.fz i),
    h.r.keep hk h2, h.rd.keep hk (by omega) (fun k hk => by omega), h.kp.trans9 hk (fun k hk _ => by omega), b0, Nat.lt_of_lt_of_le h.b1 hk.size, h.r0, h.ne, br0, hw0⟩
theorem MB.setk {w0 : World} {br rb mc N : Nat} {W wr : World} {dv cv : Value} (_h : MB w0 br rb mc N W wr dv cv) (i : Nat) (u : Value) : Keep (fun k => k ≠ mc) wr (wr.setCell ⟨mc, i, none⟩ u) := (Keep.refl (fun k => k ≠ mc) wr).set (p := ⟨mc, i, none⟩) (fun _ hh => hh rfl) u
theorem MB.set0 {w0 : World} {br rb mc N : Nat} {W wr : World} {dv cv : Value} (h : MB w0 br rb mc N W wr dv cv) (u : Value) : MB w0 br rb mc N W (wr.setCell ⟨mc, 0, none⟩ u) u cv := by
  have b0 := h.b0
  have br0 := h.br0
  have hw0 := h.w00
  have hk := h.setk 0 u
  exact ⟨World.cell?_setCell_same' _ _ _ (by rw [h.c0]; rfl), (World.cell?_setCell_other _ _ _ _ (by simp)).trans h.c1, fun i => (World.frozen?_setCell ..).trans (h.fz i), h.r.keep hk h.ne,
    h.rd.keep hk (by omega) (fun k hk => by omega), h.kp.trans9 hk (fun k hk _ => by omega), b0, Nat.lt_of_lt_of_le h.b1 hk.size, h.r0, h.ne, br0, hw0⟩
theorem MB.set1 {w0 : World} {br rb mc N : Nat} {W wr : World} {dv cv : Value} (h : MB w0 br rb mc N W wr dv cv) (u : Value) : MB w0 br rb mc N W (wr.setCell ⟨mc, 1, none⟩ u) dv u := by
  have b0 := h.b0
  have br0 := h.br0
  have hw0 := h.w00
  have hk := h.setk 1 u
  exact ⟨(World.cell?_setCell_other _ _ _ _ (by simp)).trans h.c0, World.cell?_setCell_same' _ _ _ (by rw [h.c1]; rfl), fun i => (World.frozen?_setCell ..).trans (h.fz i), h.r.keep hk h.ne,
    h.rd.keep hk (by omega) (fun k hk => by omega), h.kp.trans9 hk (fun k hk _ => by omega), b0, Nat.lt_of_lt_of_le h.b1 hk.size, h.r0, h.ne, br0, hw0⟩
theorem RB.two {rb : Nat} {w : World} (h : RB rb 2 w) : rb < w.heap.size ∧ ∃ u0 u1, w.cell? ⟨rb, 0, none⟩ = some u0 ∧ w.cell? ⟨rb, 1, none⟩ = some u1 ∧ w.frozen? ⟨rb, 0, none⟩ = false ∧ w.frozen? ⟨rb, 1, none⟩ = false := by
  obtain ⟨h1, h2, h3⟩ := h
  obtain ⟨u0, a0⟩ := h3 0 (by omega)
  obtain ⟨u1, a1⟩ := h3 1 (by omega)
  exact ⟨h1, u0, u1, a0, a1, h2 _, h2 _⟩
theorem MB.start {w0 : World} {br N : Nat} {W w1 : World} {t t' : TypeId} {x0 x1 : Value} (hR : RdSt w0 br N w1) (hK : Keep (fun k => k ≠ br) ((W.alloc (.cells #[x0, x1] t)).alloc (.cells #[.slice none 0 0, .slice none 0 0] t')) w1) (hbr : br < W.heap.size) (hw : w0.heap.size ≤ W.heap.size) :
    MB w0 br W.heap.size (W.heap.size + 1) N W w1 (.slice none 0 0) (.slice none 0 0) := by
  have hx : Ext (W.alloc (.cells #[x0, x1] t)) ((W.alloc (.cells #[x0, x1] t)).alloc (.cells #[.slice none 0 0, .slice none 0 0] t')) := (Ext.refl _).alloc _
  have hs : (W.alloc (.cells #[x0, x1] t)).heap.size = W.heap.size + 1 := by simp
  have hs2 : ((W.alloc (.cells #[x0, x1] t)).alloc (.cells #[.slice none 0 0, .slice none 0 0] t')).heap.size = W.heap.size + 2 := by simp
  have hn : W.heap.size + 1 ≠ br := by omega
  refine ⟨(hK.cell (p := ⟨W.heap.size + 1, 0, none⟩) (by rw [hs2]; show W.heap.size + 1 < _; omega) hn).trans (World.cell?_alloc_at _ _ _ _ hs.symm), (hK.cell (p := ⟨W.heap.size + 1, 1, none⟩) (by rw [hs2]; show W.heap.size + 1 < _; omega) hn).trans (World.cell?_alloc_at _ _ _ _ hs.symm),
    fun i => (hK.frz (p := ⟨W.heap.size + 1, i, none⟩) (by rw [hs2]; show W.heap.size + 1 < _; omega) hn).trans (by rw [← hs]; exact World.frozen?_alloc_new _ _ _ _), ?_, hR, (((Ext.refl W).alloc _).alloc _).keep _ |>.trans hK, by omega, by have := hK.size; omega, Nat.le_refl _, by omega, hbr, hw⟩
  refine RB.keep (S := fun k => k ≠ br) ⟨by rw [hs2]; omega, fun i => ?_, fun i hi => ?_⟩ hK (by omega)
  · exact (hx.frz W.heap.size i (by omega)).trans (World.frozen?_alloc_new _ _ _ _)
  · obtain rfl | rfl : i = 0 ∨ i = 1 := by omega
    all_goals exact ⟨_, (hx.cells W.heap.size _ (by omega)).trans (World.cell?_alloc_at _ _ _ _ rfl)⟩
end Go.Proofs.Ytmfbdaocnijnpaa
/- Draws of the generator: a constraint is damaged. -/
namespace Go.Proofs.Ytmfbdaocnijnpaa
open Go.RowKit

theorem IV.nb {S : Nat → Prop} {w : World} {v : Value} {xs : List Int} (h : IV S w v xs) : IV (fun k => S k ∧ k ≠ w.heap.size) w v xs := ⟨h.1, fun g hg => ⟨h.2.1 g hg, by have := h.lt g hg; omega⟩, h.2.2⟩
theorem RowW.lt9 {w : World} {v : Value} {xs : List Int} (h : RowW w v xs) : ∀ g, v.ownBlock = some g → g < w.heap.size := by
  obtain ⟨b, cap, m, f, rfl, -, -, h1, -⟩ := h
  intro g hg
  have hg : some b = some g := hg
  injection hg with hg
  subst hg
  exact h1.lt
theorem RV.nb {S : Nat → Prop} {w : World} {v : Value} {rs : List (List Int)} (h : RV S w v rs) : RV (fun k => S k ∧ k ≠ w.heap.size) w v rs := by
  have hb := h.1.blk9
  obtain ⟨⟨cells, h1, h2, h3⟩, h4⟩ := h
  refine ⟨⟨cells, h1, fun g hg => ⟨h2 g hg, by have := (hb g hg).2; omega⟩, fun i hi => ?_⟩, h4⟩
  obtain ⟨cv, q1, q2, q3⟩ := h3 i hi
  exact ⟨cv, q1, q2, fun g hg => ⟨q3 g hg, by have := q2.lt9 g hg; omega⟩⟩
theorem run_app_none (w : World) (ty : TypeId) (b c : Nat) (A : Option Addr) : (Builtin.append_ #[23, 23] ty #[.slice (some ⟨b, 0, none⟩) 0 0, .slice A 0 c]).run Try.prog w = .ok (.slice (some ⟨b, 0, none⟩) 0 0) w := by
  obtain ⟨i, hi, hz, hsz, hby⟩ := Try.infoIp
  cases A <;> simp [Builtin.append_, run_underlying Try.underlying23, sizeOf, typeInfo, hi, Builtin.lenOf, Builtin.firstCells, loadCells, loadCellsFrom, storeCells]
theorem wpList_app_none (w : World) {ops : Array Oper} {rest : List Oper} {o : Oper} {a : Act} {Q : Exit → Act → World → Prop} (hgd : o.guard = none) (s x : Operand)
    (ho : o.op = .call { callee := .builtin .append, args := #[s, x], argTypes := #[23, 23] }) (b c : Nat) (A : Option Addr) (hs : a.eval s = .slice (some ⟨b, 0, none⟩) 0 0) (hx : a.eval x = .slice A 0 c)
    (h : wpList Try.prog ops Q rest (a.put o.dst (.slice (some ⟨b, 0, none⟩) 0 0)) w) : wpList Try.prog ops Q (o :: rest) a w := by
  refine wpList_plain hgd fun K hK => ?_
  unfold Oper.wp
  simp [execOp, ho, resolve, invoke, builtin, hs, hx, run_app_none, Result.andThen]
  exact hK _ _ h
set_option maxHeartbeats 1000000 in
/-- A copy, of which the range alone is told. -/
theorem copyD_any (S : Nat → Prop) (v : Value) (xs : List Int) (W : World) (h : IV S W v xs) :
    Calls Try.prog 58 #[v] W (fun e W' => ∃ v', e = .returned v' ∧ LR W.heap.size 3 1 W' v' xs.length (-100000) 100000 ∧ Ext W W') := by
  have HV := hide h
  have hl := h.2.2.1
  obtain ⟨A, c, rfl, -⟩ := h.form
  by_cases h0 : xs.length = 0
  · rw [h0] at HV ⊢
    clear h
    go_enter Try.func58, Try.ntmps58
    go_wp2_with (at_builtin; go_must (refine wpList_app_none _ rfl _ _ rfl W.heap.size c A rfl rfl ?_))
    go_ret
    exact ⟨_, rfl, LR.empty 3 1 W _ _, (Ext.refl W).alloc _⟩
  · rcases h.1 with ⟨-, h1⟩ | ⟨g, cap, m, f, hv, h1, h2, h3, h4⟩
    · rw [h1] at h0; exact absurd rfl h0
    injection hv with hv _ hc
    subst hv
    subst hc
    have hcell : ∀ j, j < xs.length * 1 → ∃ x : Int, W.cell? ⟨g, j, none⟩ = some (vI x) ∧ -100000 ≤ x ∧ x ≤ 100000 := fun j hj => ⟨at0 xs j, by rw [h3.cell (by omega), h4 j (by omega)], h.2.2.2 j (by omega)⟩
    have HC := hide hcell
    have hgl := h3.lt
    clear h h3 h4 hcell
    go_enter Try.func58, Try.ntmps58
    go_wp2_with (at_builtin; go_must (refine wpList_appLI _ rfl _ _ rfl W.heap.size _ 0 xs.length (-100000) 100000 g c rfl rfl (LR.empty 3 1 W _ _) (by omega) (fun j hj => by obtain ⟨x, q1, q2⟩ := HC.out j hj; exact ⟨x, (((Ext.refl W).alloc _).cells _ _ hgl).trans q1, q2⟩) (by omega) (by simp) ?_); intro v' W3 hL3 hb3; have HL3 := hide hL3; have HB3 := hide hb3; clear hL3 hb3)
    go_ret
    exact ⟨_, rfl, by have := HL3.out; rwa [Nat.zero_add] at this, ((Ext.refl W).alloc _).below HB3.out⟩
/-- A constraint that is being damaged: in block bc, the block of the result beside it. -/
structure DB (w0 : World) (br rb bc N : Nat) (Wo W wr : World) (c : Con) (vv va vr : Value) : Prop where
  b : CB w0 br bc N Wo wr c vv va vr
  r : RB rb 5 wr
  ne : rb ≠ bc
  nr : rb ≠ br
  rb0 : W.heap.size ≤ rb
  bc0 : W.heap.size ≤ bc
  k : Keep (fun k => k ≠ br) W wr
  hc : HasC wr rb
theorem HasC.keep {S : Nat → Prop} {w w' : World} {g : Nat} (h : HasC w g) (hk : Keep S w w') (hS : S g) : HasC w' g := by
  obtain ⟨cur, h⟩ := h
  exact ⟨cur, (hk.block g (Array.getElem?_eq_some_iff.1 h).1 hS).trans h⟩
theorem DB.keep {w0 : World} {br rb bc N M : Nat} {Wo W wr w2 : World} {c : Con} {vv va vr : Value} (h : DB w0 br rb bc N Wo W wr c vv va vr) (hR : RdSt w0 br M w2) (hK : Keep (fun k => k ≠ br) wr w2) : DB w0 br rb bc M Wo W w2 c vv va vr :=
  ⟨h.b.keep hR hK, h.r.keep hK h.nr, h.ne, h.nr, h.rb0, h.bc0, h.k.trans hK, h.hc.keep hK h.nr⟩
theorem DB.mono {w0 : World} {br rb bc N M : Nat} {Wo W wr : World} {c : Con} {vv va vr : Value} (h : DB w0 br rb bc N Wo W wr c vv va vr) (hN : N ≤ M) : DB w0 br rb bc M Wo W wr c vv va vr := h.keep (h.b.rd.mono hN) (Keep.refl _ _)
theorem DB.grow {w0 : World} {br rb bc N : Nat} {Wo W wr w2 : World} {c : Con} {vv va vr : Value} (h : DB w0 br rb bc N Wo W wr c vv va vr) (hx : Ext wr w2) : DB w0 br rb bc N Wo W w2 c vv va vr := h.keep (h.b.rd.grow hx) (hx.keep _)
theorem DB.setk {w0 : World} {br rb bc N : Nat} {Wo W wr : World} {c : Con} {vv va vr : Value} (_h : DB w0 br rb bc N Wo W wr c vv va vr) (i : Nat) (u : Value) : Keep (fun k => k ≠ bc) wr (wr.setCell ⟨bc, i, none⟩ u) := (Keep.refl (fun k => k ≠ bc) wr).set (p := ⟨bc, i, none⟩) (fun _ hh => hh rfl) u
theorem DB.put {w0 : World} {br rb bc N : Nat} {Wo W wr : World} {c c' : Con} {vv va vr vv' va' vr' : Value} {i : Nat} {u : Value} (h : DB w0 br rb bc N Wo W wr c vv va vr) (hb : CB w0 br bc N Wo (wr.setCell ⟨bc, i, none⟩ u) c' vv' va' vr') : DB w0 br rb bc N Wo W (wr.setCell ⟨bc, i, none⟩ u) c' vv' va' vr' :=
  ⟨hb, h.r.keep (h.setk i u) h.ne, h.ne, h.nr, h.rb0, h.bc0, h.k.trans9 (h.setk i u) (fun k hk _ => by have := h.bc0; omega), h.hc.keep (h.setk i u) h.ne⟩
/-- A list of one number is made and set as the variables. -/
theorem DB.one1 {w0 : World} {br rb bc N : Nat} {Wo W wr : World} {c : Con} {vv va vr : Value} (h : DB w0 br rb bc N Wo W wr c vv va vr) (z : Int) (hz : -100000 ≤ z ∧ z ≤ 100000) :
    DB w0 br rb bc N Wo W ((wr.setCell ⟨bc, 1, none⟩ (.slice (some ⟨wr.heap.size, 0, none⟩) 1 1)).alloc (.cells #[.int .i64 z] 3)) { c with vars := [z] } (.slice (some ⟨wr.heap.size, 0, none⟩) 1 1) va vr := by
  have hb0 := h.b.b0
  have hb1 := h.b.b1
  have hg := h.grow ((Ext.refl wr).alloc (.cells #[.int .i64 z] 3))
  have h1 := hg.put (hg.b.set1 (IV.one _ wr z ⟨by omega, by omega⟩ hz) (by simp))
  rw [World.setCell_alloc_past _ _ _ _ h.b.b1] at h1
  exact h1
theorem DB.start {w0 : World} {br N : Nat} {Wo W : World} {t : TypeId} {c : Con} {vv va vr x0 x1 x2 x3 x4 : Value} (hR : RdSt w0 br N W) (hK : Keep (fun k => k ≠ br) Wo W) (hbr : br < Wo.heap.size) (hw : w0.heap.size ≤ Wo.heap.size)
    (h1 : IV (fun k => Wo.heap.size ≤ k) W vv c.vars) (h2 : IV (fun k => Wo.heap.size ≤ k) W va c.args) (h3 : RV (fun k => Wo.heap.size ≤ k) W vr c.rows) (hv : 0 < c.vars.length) :
    DB w0 br (W.heap.size + 1) W.heap.size N Wo W ((W.alloc (.cells #[.int .i64 c.kk, vv, va, .int .i64 c.bound, vr] t)).alloc (.cells #[x0, x1, x2, x3, x4] 26)) c vv va vr := by
  have hs := hK.size
  have hx : Ext W ((W.alloc (.cells #[.int .i64 c.kk, vv, va, .int .i64 c.bound, vr] t)).alloc (.cells #[x0, x1, x2, x3, x4] 26)) := ((Ext.refl W).alloc _).alloc _
  have hx2 : Ext (W.alloc (.cells #[.int .i64 c.kk, vv, va, .int .i64 c.bound, vr] t)) ((W.alloc (.cells #[.int .i64 c.kk, vv, va, .int .i64 c.bound, vr] t)).alloc (.cells #[x0, x1, x2, x3, x4] 26)) := (Ext.refl _).alloc _
  have hz : (W.alloc (.cells #[.int .i64 c.kk, vv, va, .int .i64 c.bound, vr] t)).heap.size = W.heap.size + 1 := by simp
  have hz2 : ((W.alloc (.cells #[.int .i64 c.kk, vv, va, .int .i64 c.bound, vr] t)).alloc (.cells #[x0, x1, x2, x3, x4] 26)).heap.size = W.heap.size + 2 := by simp
  have hlt : W.heap.size < (W.alloc (.cells #[.int .i64 c.kk, vv, va, .int .i64 c.bound, vr] t)).heap.size := by rw [hz]; omega
  refine ⟨⟨(hx2.cells _ _ hlt).trans (World.cell?_alloc_at _ _ _ _ rfl), (hx2.cells _ _ hlt).trans (World.cell?_alloc_at _ _ _ _ rfl), (hx2.cells _ _ hlt).trans (World.cell?_alloc_at _ _ _ _ rfl), (hx2.cells _ _ hlt).trans (World.cell?_alloc_at _ _ _ _ rfl), (hx2.cells _ _ hlt).trans (World.cell?_alloc_at _ _ _ _ rfl),
    fun i => (hx2.frz _ i hlt).trans (World.frozen?_alloc_new _ _ _ _), h1.nb.ext hx, h2.nb.ext hx, h3.nb.ext hx, hv, hs, by rw [hz2]; omega, hR.grow hx, hK.trans (hx.keep _), hbr, hw⟩,
    ⟨by rw [hz2]; omega, fun i => by rw [← hz]; exact World.frozen?_alloc_new _ _ _ _, fun i hi => ?_⟩, by omega, by omega, by omega, Nat.le_refl _, hx.keep _, ⟨_, by rw [← hz]; exact World.alloc_heap_new _ _⟩⟩
  obtain rfl | rfl | rfl | rfl | rfl : i = 0 ∨ i = 1 ∨ i = 2 ∨ i = 3 ∨ i = 4 := by omega
  all_goals exact ⟨_, World.cell?_alloc_at _ _ _ _ hz.symm⟩
theorem DB.done {w0 : World} {br rb bc N : Nat} {Wo W wr w' : World} {c : Con} {vv va vr : Value} (h : DB w0 br rb bc N Wo W wr c vv va vr) (hl : c.vars.length ≤ 100 ∧ c.args.length ≤ 100) (hwo : Wo.heap.size ≤ W.heap.size) (hk : Keep (fun k => k ≠ rb) wr w') :
    (0 < c.vars.length ∧ c.vars.length ≤ 100 ∧ c.args.length ≤ 100) ∧ CV (fun k => Wo.heap.size ≤ k) w' (.agg #[.int .i64 c.kk, vv, va, .int .i64 c.bound, vr]) c ∧ RdSt w0 br N w' ∧ Keep (fun k => k ≠ br) W w' := by
  have := h.rb0
  have := h.nr
  have := h.b.w00
  exact ⟨⟨h.b.nv, hl⟩, ⟨vv, va, vr, rfl, ((h.b.iv.apart h.hc).keep hk (fun k hk => hk.2)).mono (fun k hk => hk.1.1), ((h.b.ia.apart h.hc).keep hk (fun k hk => hk.2)).mono (fun k hk => hk.1.1), ((h.b.ir.apart h.hc).keep hk (fun k hk => hk.2)).mono (fun k hk => hk.1.1)⟩,
    h.b.rd.keep hk (fun e => h.nr e.symm) (fun k hk => by omega), h.k.trans9 hk (fun k hk _ => by omega)⟩
/-- A constraint was damaged. -/
def DGot (w0 : World) (br N : Nat) (Wo W : World) (e : Ending) (W' : World) : Prop :=
  ∃ v c, e = .returned v ∧ (0 < c.vars.length ∧ c.vars.length ≤ 100 ∧ c.args.length ≤ 100) ∧ CV (fun k => Wo.heap.size ≤ k) W' v c ∧ RdSt w0 br N W' ∧ Keep (fun k => k ≠ br) W W'
set_option maxRecDepth 100000 in
set_option maxHeartbeats 8000000 in
theorem damage_any (w0 Wo : World) (br N : Nat) (W : World) (v : Value) (c : Con) (hN : N ≤ 79000) (hR : RdSt w0 br N W) (hK : Keep (fun k => k ≠ br) Wo W) (hbr : br < Wo.heap.size) (hw0 : w0.heap.size ≤ Wo.heap.size)
    (hc : CV (fun k => Wo.heap.size ≤ k) W v c) (hv : 0 < c.vars.length ∧ c.vars.length ≤ 99 ∧ c.args.length ≤ 99) :
    Calls Try.prog 74 #[.pointer (some ⟨br, 0, none⟩), v] W (DGot w0 br (N + 2) Wo W) := by
  obtain ⟨vv, va, vr, rfl, h1, h2, h3⟩ := hc
  obtain ⟨A1, e1, hv1, -⟩ := h1.form
  obtain ⟨A2, e2, hv2, -⟩ := h2.form
  obtain ⟨A3, e3, hv3, -⟩ := h3.1.form
  subst hv1 hv2 hv3
  have hs := hK.size
  have HD := hide (fun (t : TypeId) (x0 x1 x2 x3 x4 : Value) => DB.start (t := t) (x0 := x0) (x1 := x1) (x2 := x2) (x3 := x3) (x4 := x4) hR hK hbr hw0 h1 h2 h3 hv.1)
  clear hR hK h1 h2 h3
  go_enter Try.func74, Try.ntmps74
  go_wp2_with fail
  refine (pick_any w0 br N 5 _ (by omega) (by omega) (by omega) (HD.out _ _ _ _ _ _).b.rd).mono ?_
  rintro e W1 ⟨y, y0, y1, rfl, hR1, hK1⟩
  have HD1 := hide ((HD.out _ _ _ _ _ _).keep hR1 hK1)
  have hz1 : W.heap.size + 2 ≤ W1.heap.size := by have := hK1.size; simp at this; omega
  clear hR1 hK1 HD
  have hl1 := HD1.out.b.b1
  have t1 := HD1.out.b.c1
  have t2 := HD1.out.b.c2
  have t3 := HD1.out.b.c3
  have t0 := HD1.out.b.c0
  have p0 := HD1.out.b.fz 0
  have p1 := HD1.out.b.fz 1
  have p2 := HD1.out.b.fz 2
  have p3 := HD1.out.b.fz 3
  go_upto_block 0 with fail
  go_cut [3] from 5 (fun s3 wx => s3 = .pointer (some ⟨W.heap.size, 0, none⟩) ∧ ∃ c vv va vr, DB w0 br (W.heap.size + 1) W.heap.size (N + 2) Wo W wx c vv va vr ∧ c.vars.length ≤ 100 ∧ c.args.length ≤ 100)
  case first =>
    obtain rfl | rfl | rfl | rfl | rfl : y = 0 ∨ y = 1 ∨ y = 2 ∨ y = 3 ∨ y = 4 := by omega
    · skip
      go_wp2_with fail
      refine (one_any w0 br (N + 1) (0) 10 W1.heap.size 4 4 _ (by omega) (by omega) (by omega) (HD1.out.b.rd.grow ((Ext.refl _).alloc _)) (by simp) (by omega) (newL12 W1 3 [0, 10, 1, 5] (by intro x hx; simp at hx; omega)) (Nat.le_refl _)).mono ?_
      rintro e W2 ⟨z, zz0, zz1, rfl, hR2, hK2⟩
      have HD2 := hide (HD1.out.keep hR2 ((((Ext.refl W1).alloc _).keep _).trans hK2))
      clear hR2 hK2 t0 t1 t2 t3 p0 p1 p2 p3
      have hl2 := HD2.out.b.b1
      have t1 := HD2.out.b.c1
      have t2 := HD2.out.b.c2
      have t3 := HD2.out.b.c3
      have t0 := HD2.out.b.c0
      have p0 := HD2.out.b.fz 0
      have p1 := HD2.out.b.fz 1
      have p2 := HD2.out.b.fz 2
      have p3 := HD2.out.b.fz 3
      go_wp2_with fail
      go_meet
      refine ⟨rfl, _, _, _, _, HD2.out.put (HD2.out.b.set0 _), ?_, ?_⟩
      all_goals (first | omega | (dsimp only; omega) | simp)
    · have hiv := HD1.out.b.iv
      rcases hiv.1 with ⟨-, h1⟩ | ⟨g, cap, m, f, hvv, h1, h2, h3, h4⟩
      · exact absurd hv.1 (by rw [h1]; simp)
      injection hvv with hvv _ hcc
      subst hvv
      subst hcc
      have x0 : W1.cell? ⟨g, 0, none⟩ = some (.int .i64 (at0 c.vars 0)) := by rw [h3.cell (by omega), h4 0 hv.1]; rfl
      have hx0 := hiv.2.2.2 0 hv.1
      have hgl := h3.lt
      have hvl := hv.2.1
      have hv0 : 0 < (c.vars.length : Int) := by omega
      clear h1 h2 h3 h4 hiv
      go_upto_region 6 with fail
      refine wp_region_any (by kernel_rfl) ?_
      change wpAny _ _ _ _ _ _ _ (World.drew _)
      refine wpAny_take (i := 0) (v := ?_) rfl (by kernel_rfl) (by kernel_rfl) (by kernel_rfl) (by first | exact fun _ _ _ h => h | (rintro _ _ _ ⟨h, _⟩; cases h)) (Or.inl ⟨by rfl, ?hy0⟩) ?_
      case hy0 => intro w; go_simp; with_reducible rfl
      simp only [Act.put, List.getElem_toArray, List.getElem_cons_zero, List.setIfInBounds_toArray, List.set_cons_succ, List.set_cons_zero]
      refine wpAny_take (i := 3) (v := ?_) rfl (by kernel_rfl) (by kernel_rfl) (by kernel_rfl) (by first | exact fun _ _ _ h => h | (rintro _ _ _ ⟨h, _⟩; cases h)) (Or.inl ⟨by rfl, ?hy3⟩) ?_
      case hy3 => intro w; go_simp; with_reducible rfl
      simp only [Act.put, List.getElem_toArray, List.getElem_cons_zero, List.getElem_cons_succ, List.setIfInBounds_toArray, List.set_cons_succ, List.set_cons_zero]
      refine wpAny_ofK (C := fun w => w.cell? ⟨W.heap.size, 1, none⟩ = some (.slice (some ⟨g, 0, none⟩) c.vars.length e1) ∧ w.cell? ⟨g, 0, none⟩ = some (.int .i64 (at0 c.vars 0))) (n := 8) _ _ _ _ ?_
      refine wpAnyK_take 1 (.slice (some ⟨g, 0, none⟩) c.vars.length e1) rfl (by kernel_rfl) (fun _ _ _ h => h) ⟨t1, x0⟩ (And.intro (by rfl) ?hy1) ?_
      case hy1 => intro w' hw'; obtain ⟨hk1, hk2⟩ := hw'; go_simp; all_goals exact rfl
      simp only [Act.put, List.setIfInBounds_toArray, List.set_cons_succ, List.set_cons_zero]
      refine wpAnyK_take 4 (.slice (some ⟨g, 0, none⟩) c.vars.length e1) rfl (by kernel_rfl) (fun _ _ _ h => h) ⟨t1, x0⟩ (And.intro (by rfl) ?hy4) ?_
      case hy4 => intro w' hw'; obtain ⟨hk1, hk2⟩ := hw'; go_simp; all_goals exact rfl
      simp only [Act.put, List.setIfInBounds_toArray, List.set_cons_succ, List.set_cons_zero]
      refine wpAnyK_take 5 (.pointer (some ⟨g, 0, none⟩)) rfl (by kernel_rfl) (fun _ _ _ h => h) ⟨t1, x0⟩ (And.intro (by rfl) ?hy5) ?_
      case hy5 => intro w' hw'; obtain ⟨hk1, hk2⟩ := hw'; go_simp; all_goals exact rfl
      simp only [Act.put, List.setIfInBounds_toArray, List.set_cons_succ, List.set_cons_zero]
      refine wpAnyK_take 6 (.int .i64 (at0 c.vars 0)) rfl (by kernel_rfl) (fun _ _ _ h => h) ⟨t1, x0⟩ (And.intro (by rfl) ?hy6) ?_
      case hy6 => intro w' hw'; obtain ⟨hk1, hk2⟩ := hw'; go_simp; all_goals exact rfl
      simp only [Act.put, List.setIfInBounds_toArray, List.set_cons_succ, List.set_cons_zero]
      refine wpAnyK_two (i := 2) (k := 7) (by kernel_rfl) rfl rfl (by omega) (by omega) (fun K hK => ?_) (fun K hK => ?_)
      · go_simp
        refine (copyD_any _ _ _ _ (HD1.out.b.iv.ext ((Ext.refl W1).drew))).mono ?_
        rintro e W2 ⟨v2, rfl, hL2, hX2⟩
        have hX2 : Ext W1 W2 := ((Ext.refl W1).drew).trans hX2
        have hL2 : LR W1.heap.size 3 1 W2 v2 c.vars.length (-100000) 100000 := hL2
        obtain ⟨g2, cap2, rfl, -, hg2, -⟩ := hL2.form
        refine hK _ _ ⟨(hX2.cells _ _ hl1).trans t1, (hX2.cells _ _ hgl).trans x0⟩ ?_
        clear hK K
        refine wpAnyK_one (i := 7) (by kernel_rfl) rfl (by omega) (fun K hK => ?_)
        go_simp
        have HX3 := hide (hX2.alloc (.cells #[.int .i64 (at0 c.vars 0)] 3))
        refine hK _ _ ⟨(HX3.out.cells _ _ hl1).trans t1, (HX3.out.cells _ _ hgl).trans x0⟩ ?_
        clear hK K
        have HL2 := hide (hL2.ext ((Ext.refl W2).alloc (.cells #[.int .i64 (at0 c.vars 0)] 3)))
        have hone := new1 W2 3 hx0
        obtain ⟨b7, hb7⟩ : ∃ b7, b7 = W2.heap.size := ⟨_, rfl⟩
        rw [← hb7] at hone ⊢
        obtain ⟨W3, hW3⟩ : ∃ W3, W3 = W2.alloc (.cells #[.int .i64 (at0 c.vars 0)] 3) := ⟨_, rfl⟩
        rw [← hW3] at hone HX3 HL2 ⊢
        clear hL2 hX2 hW3 hb7
        refine wpAnyK_fin 8 [9, 10] (by omega) (by kernel_rfl) ?_
        simp only [nths, nth1]
        have hbw : W1.heap.size ≤ W3.heap.size := HX3.out.size
        refine wpList_appLI _ rfl _ _ rfl W1.heap.size (.slice (some ⟨g2, 0, none⟩) c.vars.length cap2) c.vars.length 1 (-100000) 100000 b7 1 rfl rfl HL2.out (by omega) hone (by omega) (by omega) ?_
        intro v3 W4 hL3 hb3
        obtain ⟨g3, cap3, rfl, -, -, -⟩ := hL3.form
        have HL3 := hide hL3
        have HD2 := hide (HD1.out.keep ((HD1.out.b.rd.grow HX3.out).far8 hb3 (by omega) (by omega)) ((HX3.out.keep _).far8 hb3))
        clear hL3 hb3 hone t0 t1 t2 t3 p0 p1 p2 p3
        have hl2 := HD2.out.b.b1
        have t1 := HD2.out.b.c1
        have p1 := HD2.out.b.fz 1
        go_wp2_with fail
        go_meet
        obtain ⟨ys, y1, y2, -⟩ := LN.iv (.inr HL3.out) (by omega) (by omega) (by omega)
        have hb0 := HD1.out.b.b0
        refine ⟨rfl, _, _, _, _, DB.mono (HD2.out.put (HD2.out.b.set1 (y2.mono (fun k hk => ⟨by omega, by omega⟩)) (by omega))) (by omega), ?_, ?_⟩
        all_goals (first | omega | (dsimp only; omega) | simp)
      · go_simp
        have hXa : Ext W1 ((W1.alloc (.cells #[.int .i64 (at0 c.vars 0)] 3)).drew) := ((Ext.refl W1).alloc _).drew
        refine hK _ _ ⟨(hXa.cells _ _ hl1).trans t1, (hXa.cells _ _ hgl).trans x0⟩ ?_
        clear hK K
        refine wpAnyK_one (i := 2) (by kernel_rfl) rfl (by omega) (fun K hK => ?_)
        go_simp
        refine (copyD_any _ _ _ _ (HD1.out.b.iv.ext hXa)).mono ?_
        rintro e W3 ⟨v2, rfl, hL2, hX2⟩
        have HX3 := hide (hXa.trans hX2)
        have HL2 := hide (hL2.mono (b0 := W1.heap.size) (l2 := -100000) (h2 := 100000) hXa.size (by omega) (by omega))
        obtain ⟨g2, cap2, rfl, -, hg2, -⟩ := hL2.form
        refine hK _ _ ⟨(HX3.out.cells _ _ hl1).trans t1, (HX3.out.cells _ _ hgl).trans x0⟩ ?_
        clear hK K
        have hone : ∀ j, j < 1 * 1 → ∃ x : Int, W3.cell? ⟨W1.heap.size, j, none⟩ = some (vI x) ∧ -100000 ≤ x ∧ x ≤ 100000 := fun j hj => by
          obtain ⟨x, q1, q2⟩ := new1 W1 3 hx0 j hj
          exact ⟨x, (hX2.cells _ _ (by show _ < (W1.alloc _).heap.size; simp)).trans q1, q2⟩
        obtain ⟨b7, hb7⟩ : ∃ b7, b7 = W1.heap.size := ⟨_, rfl⟩
        rw [← hb7] at hone ⊢
        clear hL2 hX2 hXa
        refine wpAnyK_fin 8 [9, 10] (by omega) (by kernel_rfl) ?_
        simp only [nths, nth1]
        have hbw : W1.heap.size ≤ W3.heap.size := HX3.out.size
        refine wpList_appLI _ rfl _ _ rfl W1.heap.size (.slice (some ⟨g2, 0, none⟩) c.vars.length cap2) c.vars.length 1 (-100000) 100000 b7 1 rfl rfl HL2.out (by omega) hone (by omega) (by omega) ?_
        intro v3 W4 hL3 hb3
        obtain ⟨g3, cap3, rfl, -, -, -⟩ := hL3.form
        have HL3 := hide hL3
        have HD2 := hide (HD1.out.keep ((HD1.out.b.rd.grow HX3.out).far8 hb3 (by omega) (by omega)) ((HX3.out.keep _).far8 hb3))
        clear hL3 hb3 hone t0 t1 t2 t3 p0 p1 p2 p3
        have hl2 := HD2.out.b.b1
        have t1 := HD2.out.b.c1
        have p1 := HD2.out.b.fz 1
        go_wp2_with fail
        go_meet
        obtain ⟨ys, y1, y2, -⟩ := LN.iv (.inr HL3.out) (by omega) (by omega) (by omega)
        have hb0 := HD1.out.b.b0
        refine ⟨rfl, _, _, _, _, DB.mono (HD2.out.put (HD2.out.b.set1 (y2.mono (fun k hk => ⟨by omega, by omega⟩)) (by omega))) (by omega), ?_, ?_⟩
        all_goals (first | omega | (dsimp only; omega) | simp)
    · go_wp2_with fail
      refine (copyD_any _ _ _ _ HD1.out.b.ia).mono ?_
      rintro e W2 ⟨v2, rfl, hL2, hX2⟩
      obtain ⟨g2, cap2, rfl, -, hg2, -⟩ := hL2.form
      have HL2 := hide hL2
      have HX2 := hide hX2
      have hz2 := hX2.size
      clear hL2 hX2 t0 t1 t2 t3 p0 p1 p2 p3
      have hla := hv.2.2
      go_wp2_with (at_builtin; go_must (refine wpList_appLI _ rfl _ _ rfl W1.heap.size (.slice (some ⟨g2, 0, none⟩) c.args.length cap2) c.args.length 1 (-100000) 100000 W2.heap.size 1 rfl rfl (HL2.out.ext ((Ext.refl _).alloc _)) (by omega) (new1 W2 _ (by omega)) (by omega) (by simp; omega) ?_); intro v3 W3 hL3 hb3; obtain ⟨g3, cap3, rfl, -, -, -⟩ := hL3.form; have HL3 := hide hL3; have HD2 := hide (HD1.out.keep ((HD1.out.b.rd.grow (HX2.out.alloc _)).far8 hb3 (by omega) (by omega)) (((HX2.out.alloc _).keep _).far8 hb3)); clear hL3 hb3; have hl2 := HD2.out.b.b1; have t2 := HD2.out.b.c2; have p2 := HD2.out.b.fz 2)
      go_meet
      obtain ⟨ys, y1, y2, -⟩ := LN.iv (.inr HL3.out) (by omega) (by omega) (by omega)
      have hb0 := HD1.out.b.b0
      refine ⟨rfl, _, _, _, _, DB.mono (HD2.out.put (HD2.out.b.set2 (y2.mono (fun k hk => ⟨by omega, by omega⟩)))) (by omega), ?_, ?_⟩
      all_goals (first | omega | (dsimp only; omega) | simp)
    · skip
      go_wp2_with fail
      refine (one_any w0 br (N + 1) (-1000) 1000 W1.heap.size 3 3 _ (by omega) (by omega) (by omega) (HD1.out.b.rd.grow ((Ext.refl _).alloc _)) (by simp) (by omega) (newL12 W1 3 [-1000, 1000, 5] (by intro x hx; simp at hx; omega)) (Nat.le_refl _)).mono ?_
      rintro e W2 ⟨z, zz0, zz1, rfl, hR2, hK2⟩
      have HD2 := hide (HD1.out.keep hR2 ((((Ext.refl W1).alloc _).keep _).trans hK2))
      clear hR2 hK2 t0 t1 t2 t3 p0 p1 p2 p3
      have hl2 := HD2.out.b.b1
      have t1 := HD2.out.b.c1
      have t2 := HD2.out.b.c2
      have t3 := HD2.out.b.c3
      have t0 := HD2.out.b.c0
      have p0 := HD2.out.b.fz 0
      have p1 := HD2.out.b.fz 1
      have p2 := HD2.out.b.fz 2
      have p3 := HD2.out.b.fz 3
      go_wp2_with fail
      go_meet
      refine ⟨rfl, _, _, _, _, HD2.out.put (HD2.out.b.set3 _), ?_, ?_⟩
      all_goals (first | omega | (dsimp only; omega) | simp)
    · skip
      go_wp2_with fail
      refine (one_any w0 br (N + 1) (-1) 4 W1.heap.size 2 2 _ (by omega) (by omega) (by omega) (HD1.out.b.rd.grow ((Ext.refl _).alloc _)) (by simp) (by omega) (newL12 W1 3 [-1, 4] (by intro x hx; simp at hx; omega)) (Nat.le_refl _)).mono ?_
      rintro e W2 ⟨z, zz0, zz1, rfl, hR2, hK2⟩
      have HD2 := hide (HD1.out.keep hR2 ((((Ext.refl W1).alloc _).keep _).trans hK2))
      clear hR2 hK2 t0 t1 t2 t3 p0 p1 p2 p3
      have hl2 := HD2.out.b.b1
      have t1 := HD2.out.b.c1
      have t2 := HD2.out.b.c2
      have t3 := HD2.out.b.c3
      have t0 := HD2.out.b.c0
      have p0 := HD2.out.b.fz 0
      have p1 := HD2.out.b.fz 1
      have p2 := HD2.out.b.fz 2
      have p3 := HD2.out.b.fz 3
      go_wp2_with fail
      go_meet
      refine ⟨rfl, _, _, _, _, HD2.out.one1 _ (by omega), ?_, ?_⟩
      all_goals (first | omega | (dsimp only; omega) | simp)
  case rest =>
    clear t0 t1 t2 t3 p0 p1 p2 p3 hl1 HD1
    obtain ⟨rfl, c', vv, va, vr, hd, hl1, hl2⟩ := hcut
    obtain ⟨B1, e5, hv1, -⟩ := hd.b.iv.form
    obtain ⟨B2, e6, hv2, -⟩ := hd.b.ia.form
    obtain ⟨B3, e7, hv3, -⟩ := hd.b.ir.1.form
    subst hv1 hv2 hv3
    have c0 := hd.b.c0
    have c1 := hd.b.c1
    have c2 := hd.b.c2
    have c3 := hd.b.c3
    have c4 := hd.b.c4
    have hbc := hd.b.b1
    obtain ⟨hrb1, u0, u1, u2, u3, u4, r0, r1, r2, r3, r4, z0, z1, z2, z3, z4⟩ := hd.r.five
    have HD9 := hide hd
    clear hd
    go_wp2_with fail
    refine bodyPost_ret (v := .agg #[.int .i64 c'.kk, .slice B1 c'.vars.length e5, .slice B2 c'.args.length e6, .int .i64 c'.bound, .slice B3 c'.rows.length e7]) (by simp only [results, Try.results74]; go_simp) rfl ?_
    obtain ⟨q1, q2, q3, q4⟩ := HD9.out.done ⟨hl1, hl2⟩ hs (w' := ((((wc.setCell ⟨W.heap.size + 1, 0, none⟩ (.int .i64 c'.kk)).setCell ⟨W.heap.size + 1, 1, none⟩ (.slice B1 c'.vars.length e5)).setCell ⟨W.heap.size + 1, 2, none⟩ (.slice B2 c'.args.length e6)).setCell ⟨W.heap.size + 1, 3, none⟩ (.int .i64 c'.bound)).setCell ⟨W.heap.size + 1, 4, none⟩ (.slice B3 c'.rows.length e7)) (by (repeat refine Keep.set ?_ (fun _ hh => hh rfl) _); exact Keep.refl _ _)
    exact ⟨_, c', rfl, q1, q2, q3, q4⟩
end Go.Proofs.Ytmfbdaocnijnpaa
/- Draws of the generator: a model that may be invalid. -/
namespace Go.Proofs.Ytmfbdaocnijnpaa
open Go.RowKit

/-- Constraints as a row, for stores into it. -/
def CF (L B : Nat) (S : Nat → Prop) (w : World) (v : Value) (cs : List Con) : Prop :=
  (v = .slice none 0 0 ∧ cs = []) ∨ ∃ g cap f, v = .slice (some ⟨g, 0, none⟩) cs.length cap ∧ B ≤ g ∧ cs.length ≤ cap ∧ w.rowIs g 26 (cap * 5) f ∧ ∀ i, i < cs.length → CV5 L S w (fun j => some (f (i * 5 + j))) (con0 cs i)
theorem CA.cf {L B : Nat} {S : Nat → Prop} {w : World} {v : Value} {cs : List Con} (h : CA L B S w v cs) : CF L B S w v cs := by
  obtain ⟨cells, h1, h2⟩ := h
  rcases h1.2 with ⟨e1, e2⟩ | ⟨g, cap, cur, e1, hg, hh, hnc, hm, hcs, htk⟩
  · exact .inl ⟨e1, List.length_eq_zero_iff.1 e2⟩
  · refine .inr ⟨g, cap, fun i => cur.getD i (.bool false), e1, hg, hnc, ⟨cur, hh, hcs, fun i hi => by show _ = some (cur.getD i _); rw [Array.getD_eq_getD_getElem?, Array.getElem?_eq_getElem (by omega)]; rfl⟩, fun i hi => (h2 i hi).cast fun j hj => ?_⟩
    have e5 : (cur.toList.take (cs.length * 5))[i * 5 + j]? = cells[i * 5 + j]? := by rw [htk]
    rw [List.getElem?_take, if_pos (by omega), Array.getElem?_toList] at e5
    have hle : cs.length * 5 ≤ cap * 5 := Nat.mul_le_mul_right _ hnc
    show _ = some (cur.getD (i * 5 + j) _)
    rw [← e5, Array.getD_eq_getD_getElem?, Array.getElem?_eq_getElem (by omega)]
    rfl
theorem CF.form {L B : Nat} {S : Nat → Prop} {w : World} {v : Value} {cs : List Con} (h : CF L B S w v cs) : ∃ A c, v = .slice A cs.length c ∧ cs.length ≤ c := by
  rcases h with ⟨rfl, rfl⟩ | ⟨g, cap, f, rfl, -, h, -⟩
  · exact ⟨_, _, rfl, Nat.le_refl _⟩
  · exact ⟨_, _, rfl, h⟩
theorem CF.wide {L M B : Nat} {S : Nat → Prop} {w : World} {v : Value} {cs : List Con} (h : CF L B S w v cs) (hL : L ≤ M) : CF M B S w v cs :=
  h.imp id fun ⟨g, cap, f, h1, h2, h3, h4, h5⟩ => ⟨g, cap, f, h1, h2, h3, h4, fun i hi => (h5 i hi).wide hL⟩
theorem CF.keep {L B : Nat} {S T : Nat → Prop} {w w' : World} {v : Value} {cs : List Con} (h : CF L B S w v cs) (hk : Keep T w w') (hb : ∀ k, B ≤ k → T k) (hS : ∀ k, S k → T k) : CF L B S w' v cs :=
  h.imp id fun ⟨g, cap, f, h1, h2, h3, h4, h5⟩ => ⟨g, cap, f, h1, h2, h3, hk.row (hb g h2) h4, fun i hi => (h5 i hi).keep hk hS⟩
theorem CF.cons {L B : Nat} {S : Nat → Prop} {w : World} {v : Value} {cs : List Con} (h : CF L B S w v cs) (hl : cs.length ≤ 1000000) : SCons w v cs := by
  rcases h with ⟨rfl, rfl⟩ | ⟨g, cap, f, e1, hg, hnc, hr, h2⟩
  · exact ⟨none, 0, rfl, Nat.le_refl _, by simp, fun hp => absurd hp (by simp)⟩
  · have hle : cs.length * 5 ≤ cap * 5 := Nat.mul_le_mul_right _ hnc
    refine ⟨_, _, e1, hnc, by omega, fun _ => ⟨g, 0, rfl, hr.lt, fun i hi => ?_⟩⟩
    obtain ⟨vv, va, vr, e0, e1, e2, e3, e4, q1, q2, q3, -⟩ := h2 i hi
    have hcell : ∀ j u, j < 5 → some (f (i * 5 + j)) = some u → w.cell? ⟨g, 0 + i * 5 + j, none⟩ = some u := by
      intro j u hj hu
      rw [Nat.zero_add, hr.cell (by omega), hu]
    exact ⟨vv, va, vr, hcell 0 _ (by omega) e0, hcell 1 _ (by omega) e1, hcell 2 _ (by omega) e2, hcell 3 _ (by omega) e3, hcell 4 _ (by omega) e4, q1.ints, q2.ints, q3.rows⟩
/-- One constraint is replaced. -/
theorem CF.set {L B : Nat} {S : Nat → Prop} {w : World} {g n cap k : Nat} {cs : List Con} {c : Con} {vv va vr : Value} (h : CF L B S w (.slice (some ⟨g, 0, none⟩) n cap) cs) (hk : k < cs.length)
    (hn : CV5 L S w (fun j => [Value.int .i64 c.kk, vv, va, .int .i64 c.bound, vr][j]?) c) :
    CF L B S (((((w.setCell ⟨g, k * 5, none⟩ (.int .i64 c.kk)).setCell ⟨g, k * 5 + 1, none⟩ vv).setCell ⟨g, k * 5 + 2, none⟩ va).setCell ⟨g, k * 5 + 3, none⟩ (.int .i64 c.bound)).setCell ⟨g, k * 5 + 4, none⟩ vr) (.slice (some ⟨g, 0, none⟩) n cap) (cs.set k c) := by
  rcases h with ⟨h, -⟩ | ⟨g', cap', f, e1, hg, hnc, hr, h2⟩
  · cases h
  injection e1 with e1 e2 e3
  injection e1 with e1
  injection e1 with e1 _
  subst e1 e2 e3
  have hle : cs.length * 5 ≤ cap * 5 := Nat.mul_le_mul_right _ hnc
  have hC : HasC w g := by obtain ⟨cur, k1, -⟩ := hr; exact ⟨cur, k1⟩
  have hK : Keep (fun k => k ≠ g) w (((((w.setCell ⟨g, k * 5, none⟩ (.int .i64 c.kk)).setCell ⟨g, k * 5 + 1, none⟩ vv).setCell ⟨g, k * 5 + 2, none⟩ va).setCell ⟨g, k * 5 + 3, none⟩ (.int .i64 c.bound)).setCell ⟨g, k * 5 + 4, none⟩ vr) := by
    repeat refine Keep.set ?_ (fun _ hh => hh rfl) _
    exact Keep.refl _ _
  have mv : ∀ {F : Nat → Option Value} {d : Con}, CV5 L S w F d → CV5 L S (((((w.setCell ⟨g, k * 5, none⟩ (.int .i64 c.kk)).setCell ⟨g, k * 5 + 1, none⟩ vv).setCell ⟨g, k * 5 + 2, none⟩ va).setCell ⟨g, k * 5 + 3, none⟩ (.int .i64 c.bound)).setCell ⟨g, k * 5 + 4, none⟩ vr) F d :=
    fun hd => ((hd.apart hC).keep hK (fun k hk => hk.2)).mono (fun k hk => hk.1)
  have hr5 := ((((hr.set (k * 5) (.int .i64 c.kk)).set (k * 5 + 1) vv).set (k * 5 + 2) va).set (k * 5 + 3) (.int .i64 c.bound)).set (k * 5 + 4) vr
  refine .inr ⟨g, cap, _, by rw [List.length_set], hg, by rw [List.length_set]; exact hnc, hr5, fun i hi => ?_⟩
  rw [List.length_set] at hi
  by_cases hik : i = k
  · subst hik
    rw [show con0 (cs.set i c) i = c by simp [con0, hi]]
    refine (mv hn).cast fun j hj => ?_
    obtain rfl | rfl | rfl | rfl | rfl : j = 0 ∨ j = 1 ∨ j = 2 ∨ j = 3 ∨ j = 4 := by omega
    all_goals simp
  · rw [show con0 (cs.set k c) i = con0 cs i by simp [con0, List.getD_eq_getElem?_getD, List.getElem?_set_ne (Ne.symm hik)]]
    refine (mv (h2 i hi)).cast fun j hj => ?_
    have a0 : i * 5 + j ≠ k * 5 := by omega
    have a1 : i * 5 + j ≠ k * 5 + 1 := by omega
    have a2 : i * 5 + j ≠ k * 5 + 2 := by omega
    have a3 : i * 5 + j ≠ k * 5 + 3 := by omega
    have a4 : i * 5 + j ≠ k * 5 + 4 := by omega
    simp [a0, a1, a2, a3, a4]
/-- The world as it was when it had B blocks. -/
theorem Keep.cut (w : World) {B : Nat} (hB : B ≤ w.heap.size) : ∃ wo : World, wo.heap.size = B ∧ ∀ S, Keep S wo w := by
  refine ⟨{ w with heap := w.heap.extract 0 B }, by simp; omega, fun S => ⟨rfl, rfl, rfl, by simp; omega, fun k hk _ => ?_⟩⟩
  simp at hk
  show w.heap[k]? = (w.heap.extract 0 B)[k]?
  simp [hk]
/-- A model that was drawn: its parts, the constraints as a row. -/
structure MF (A B : Nat) (lo hi : Int) (w : World) (dv cv : Value) (n : Nat) (cs : List Con) : Prop where
  n1 : 1 ≤ n
  n4 : n ≤ 4
  ds : LR A 3 1 w dv n lo hi
  db : ∀ g, dv.ownBlock = some g → g < B
  ca : CF 100 B (fun k => B ≤ k) w cv cs
  ab : A ≤ B
  bw : B ≤ w.heap.size
theorem MV.mf {L A B : Nat} {lo hi : Int} {w : World} {dv cv : Value} {n : Nat} {cs : List Con} (h : MV L A B lo hi w dv cv n cs) (hL : L ≤ 100) : MF A B lo hi w dv cv n cs := ⟨h.n1, h.n4, h.ds, h.db, h.ca.cf.wide hL, h.ab, h.bw⟩
theorem MF.keep {A B : Nat} {lo hi : Int} {w w' : World} {dv cv : Value} {n : Nat} {cs : List Con} {S : Nat → Prop} (h : MF A B lo hi w dv cv n cs) (hk : Keep S w w') (hS : ∀ k, A ≤ k → S k) : MF A B lo hi w' dv cv n cs :=
  ⟨h.n1, h.n4, h.ds.keep hk hS, h.db, h.ca.keep hk (fun k hk => hS k (Nat.le_trans h.ab hk)) (fun k hk => hS k (Nat.le_trans h.ab hk)), h.ab, Nat.le_trans h.bw hk.size⟩
theorem MF.ext {A B : Nat} {lo hi : Int} {w w' : World} {dv cv : Value} {n : Nat} {cs : List Con} (h : MF A B lo hi w dv cv n cs) (hx : Ext w w') : MF A B lo hi w' dv cv n cs := h.keep (hx.keep (fun _ => True)) (fun _ _ => trivial)
theorem MF.mono {A A' B : Nat} {lo hi lo' hi' : Int} {w : World} {dv cv : Value} {n : Nat} {cs : List Con} (h : MF A B lo hi w dv cv n cs) (hA : A' ≤ A) (hl : lo' ≤ lo) (hh : hi ≤ hi') : MF A' B lo' hi' w dv cv n cs :=
  ⟨h.n1, h.n4, h.ds.mono hA hl hh, h.db, h.ca, Nat.le_trans hA h.ab, h.bw⟩
/-- A model came that may be invalid. -/
def FGot (w0 : World) (br N : Nat) (K : Nat) (W : World) (e : Ending) (W' : World) : Prop :=
  ∃ dv cv n cs B, e = .returned (.agg #[dv, cv]) ∧ MF W.heap.size B (-1) 64 W' dv cv n cs ∧ cs.length ≤ K ∧ RdSt w0 br N W' ∧ Keep (fun k => k ≠ br) W W'
end Go.Proofs.Ytmfbdaocnijnpaa
