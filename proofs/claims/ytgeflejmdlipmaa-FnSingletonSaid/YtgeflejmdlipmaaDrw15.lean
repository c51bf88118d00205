/- Draws of the generator: a constraint is damaged. -/
import Derived.Test.YtgeflejmdlipmaaDrw12
import Derived.Test.YtgeflejmdlipmaaDrw13
import Derived.Test.YtgeflejmdlipmaaFltZ
import Derived.Deep.CutBlock
import Derived.Deep.DeepCutAuto
namespace Go.Proofs.Ytgeflejmdlipmaa
open Go.RowKit

theorem IV.nb {S : Nat → Prop} {w : World} {v : Value} {xs : List Int} (h : IV S w v xs) : IV (fun k => S k ∧ k ≠ w.heap.size) w v xs := ⟨h.1, fun g hg => ⟨h.2.1 g hg, by have := h.lt g hg; omega⟩, h.2.2⟩
theorem RowW.lt9 {w : World} {v : Value} {xs : List Int} (h : RowW w v xs) : ∀ g, v.ownBlock = some g → g < w.heap.size := by
  obtain ⟨b, cap, m, f, rfl, -, -, h1, -⟩ := h
  intro g hg
  have hg : some b = some g := hg
  injection hg with hg
  subst hg
  exact h1.lt
theorem RV.nb {S : Nat → Prop} {w : World} {v : Value} {rs : List (List Int)} (h : RV S w v rs) : RV (fun k => S k ∧ k ≠ w.heap.size) w v rs := by
  have hb := h.1.blk9
  obtain ⟨⟨cells, h1, h2, h3⟩, h4⟩ := h
  refine ⟨⟨cells, h1, fun g hg => ⟨h2 g hg, by have := (hb g hg).2; omega⟩, fun i hi => ?_⟩, h4⟩
  obtain ⟨cv, q1, q2, q3⟩ := h3 i hi
  exact ⟨cv, q1, q2, fun g hg => ⟨q3 g hg, by have := q2.lt9 g hg; omega⟩⟩
theorem run_app_none (w : World) (ty : TypeId) (b c : Nat) (A : Option Addr) : (Builtin.append_ #[23, 23] ty #[.slice (some ⟨b, 0, none⟩) 0 0, .slice A 0 c]).run Try.prog w = .ok (.slice (some ⟨b, 0, none⟩) 0 0) w := by
  obtain ⟨i, hi, hz, hsz, hby⟩ := Try.infoIp
  cases A <;> simp [Builtin.append_, run_underlying Try.underlying23, sizeOf, typeInfo, hi, Builtin.lenOf, Builtin.firstCells, loadCells, loadCellsFrom, storeCells]
theorem wpList_app_none (w : World) {ops : Array Oper} {rest : List Oper} {o : Oper} {a : Act} {Q : Exit → Act → World → Prop} (hgd : o.guard = none) (s x : Operand)
    (ho : o.op = .call { callee := .builtin .append, args := #[s, x], argTypes := #[23, 23] }) (b c : Nat) (A : Option Addr) (hs : a.eval s = .slice (some ⟨b, 0, none⟩) 0 0) (hx : a.eval x = .slice A 0 c)
    (h : wpList Try.prog ops Q rest (a.put o.dst (.slice (some ⟨b, 0, none⟩) 0 0)) w) : wpList Try.prog ops Q (o :: rest) a w := by
  refine wpList_plain hgd fun K hK => ?_
  unfold Oper.wp
  simp [execOp, ho, resolve, invoke, builtin, hs, hx, run_app_none, Result.andThen]
  exact hK _ _ h
set_option maxHeartbeats 1000000 in
/-- A copy, of which the range alone is told. -/
theorem copyD_any (S : Nat → Prop) (v : Value) (xs : List Int) (W : World) (h : IV S W v xs) :
    Calls Try.prog 53 #[v] W (fun e W' => ∃ v', e = .returned v' ∧ LR W.heap.size 3 1 W' v' xs.length (-100000) 100000 ∧ Ext W W') := by
  have HV := hide h
  have hl := h.2.2.1
  obtain ⟨A, c, rfl, -⟩ := h.form
  by_cases h0 : xs.length = 0
  · rw [h0] at HV ⊢
    clear h
    go_enter Try.func53, Try.ntmps53
    go_wp2_with (at_builtin; go_must (refine wpList_app_none _ rfl _ _ rfl W.heap.size c A rfl rfl ?_))
    go_ret
    exact ⟨_, rfl, LR.empty 3 1 W _ _, (Ext.refl W).alloc _⟩
  · rcases h.1 with ⟨-, h1⟩ | ⟨g, cap, m, f, hv, h1, h2, h3, h4⟩
    · rw [h1] at h0; exact absurd rfl h0
    injection hv with hv _ hc
    subst hv
    subst hc
    have hcell : ∀ j, j < xs.length * 1 → ∃ x : Int, W.cell? ⟨g, j, none⟩ = some (vI x) ∧ -100000 ≤ x ∧ x ≤ 100000 := fun j hj => ⟨at0 xs j, by rw [h3.cell (by omega), h4 j (by omega)], h.2.2.2 j (by omega)⟩
    have HC := hide hcell
    have hgl := h3.lt
    clear h h3 h4 hcell
    go_enter Try.func53, Try.ntmps53
    go_wp2_with (at_builtin; go_must (refine wpList_appLI _ rfl _ _ rfl W.heap.size _ 0 xs.length (-100000) 100000 g c rfl rfl (LR.empty 3 1 W _ _) (by omega) (fun j hj => by obtain ⟨x, q1, q2⟩ := HC.out j hj; exact ⟨x, (((Ext.refl W).alloc _).cells _ _ hgl).trans q1, q2⟩) (by omega) (by simp) ?_); intro v' W3 hL3 hb3; have HL3 := hide hL3; have HB3 := hide hb3; clear hL3 hb3)
    go_ret
    exact ⟨_, rfl, by have := HL3.out; rwa [Nat.zero_add] at this, ((Ext.refl W).alloc _).below HB3.out⟩
/-- A constraint that is being damaged: in block bc, the block of the result beside it. -/
structure DB (w0 : World) (br rb bc N : Nat) (Wo W wr : World) (c : Con) (vv va vr : Value) : Prop where
  b : CB w0 br bc N Wo wr c vv va vr
  r : RB rb 5 wr
  ne : rb ≠ bc
  nr : rb ≠ br
  rb0 : W.heap.size ≤ rb
  bc0 : W.heap.size ≤ bc
  k : Keep (fun k => k ≠ br) W wr
  hc : HasC wr rb
theorem HasC.keep {S : Nat → Prop} {w w' : World} {g : Nat} (h : HasC w g) (hk : Keep S w w') (hS : S g) : HasC w' g := by
  obtain ⟨cur, h⟩ := h
  exact ⟨cur, (hk.block g (Array.getElem?_eq_some_iff.1 h).1 hS).trans h⟩
theorem DB.keep {w0 : World} {br rb bc N M : Nat} {Wo W wr w2 : World} {c : Con} {vv va vr : Value} (h : DB w0 br rb bc N Wo W wr c vv va vr) (hR : RdSt w0 br M w2) (hK : Keep (fun k => k ≠ br) wr w2) : DB w0 br rb bc M Wo W w2 c vv va vr :=
  ⟨h.b.keep hR hK, h.r.keep hK h.nr, h.ne, h.nr, h.rb0, h.bc0, h.k.trans hK, h.hc.keep hK h.nr⟩
theorem DB.mono {w0 : World} {br rb bc N M : Nat} {Wo W wr : World} {c : Con} {vv va vr : Value} (h : DB w0 br rb bc N Wo W wr c vv va vr) (hN : N ≤ M) : DB w0 br rb bc M Wo W wr c vv va vr := h.keep (h.b.rd.mono hN) (Keep.refl _ _)
theorem DB.grow {w0 : World} {br rb bc N : Nat} {Wo W wr w2 : World} {c : Con} {vv va vr : Value} (h : DB w0 br rb bc N Wo W wr c vv va vr) (hx : Ext wr w2) : DB w0 br rb bc N Wo W w2 c vv va vr := h.keep (h.b.rd.grow hx) (hx.keep _)
theorem DB.setk {w0 : World} {br rb bc N : Nat} {Wo W wr : World} {c : Con} {vv va vr : Value} (_h : DB w0 br rb bc N Wo W wr c vv va vr) (i : Nat) (u : Value) : Keep (fun k => k ≠ bc) wr (wr.setCell ⟨bc, i, none⟩ u) := (Keep.refl (fun k => k ≠ bc) wr).set (p := ⟨bc, i, none⟩) (fun _ hh => hh rfl) u
theorem DB.put {w0 : World} {br rb bc N : Nat} {Wo W wr : World} {c c' : Con} {vv va vr vv' va' vr' : Value} {i : Nat} {u : Value} (h : DB w0 br rb bc N Wo W wr c vv va vr) (hb : CB w0 br bc N Wo (wr.setCell ⟨bc, i, none⟩ u) c' vv' va' vr') : DB w0 br rb bc N Wo W (wr.setCell ⟨bc, i, none⟩ u) c' vv' va' vr' :=
  ⟨hb, h.r.keep (h.setk i u) h.ne, h.ne, h.nr, h.rb0, h.bc0, h.k.trans9 (h.setk i u) (fun k hk _ => by have := h.bc0; omega), h.hc.keep (h.setk i u) h.ne⟩
/-- A list of one number is made and set as the variables. -/
theorem DB.one1 {w0 : World} {br rb bc N : Nat} {Wo W wr : World} {c : Con} {vv va vr : Value} (h : DB w0 br rb bc N Wo W wr c vv va vr) (z : Int) (hz : -100000 ≤ z ∧ z ≤ 100000) :
    DB w0 br rb bc N Wo W ((wr.setCell ⟨bc, 1, none⟩ (.slice (some ⟨wr.heap.size, 0, none⟩) 1 1)).alloc (.cells #[.int .i64 z] 3)) { c with vars := [z] } (.slice (some ⟨wr.heap.size, 0, none⟩) 1 1) va vr := by
  have hb0 := h.b.b0
  have hb1 := h.b.b1
  have hg := h.grow ((Ext.refl wr).alloc (.cells #[.int .i64 z] 3))
  have h1 := hg.put (hg.b.set1 (IV.one _ wr z ⟨by omega, by omega⟩ hz) (by simp))
  rw [World.setCell_alloc_past _ _ _ _ h.b.b1] at h1
  exact h1
theorem DB.start {w0 : World} {br N : Nat} {Wo W : World} {t : TypeId} {c : Con} {vv va vr x0 x1 x2 x3 x4 : Value} (hR : RdSt w0 br N W) (hK : Keep (fun k => k ≠ br) Wo W) (hbr : br < Wo.heap.size) (hw : w0.heap.size ≤ Wo.heap.size)
    (h1 : IV (fun k => Wo.heap.size ≤ k) W vv c.vars) (h2 : IV (fun k => Wo.heap.size ≤ k) W va c.args) (h3 : RV (fun k => Wo.heap.size ≤ k) W vr c.rows) (hv : 0 < c.vars.length) :
    DB w0 br (W.heap.size + 1) W.heap.size N Wo W ((W.alloc (.cells #[.int .i64 c.kk, vv, va, .int .i64 c.bound, vr] t)).alloc (.cells #[x0, x1, x2, x3, x4] 54)) c vv va vr := by
  have hs := hK.size
  have hx : Ext W ((W.alloc (.cells #[.int .i64 c.kk, vv, va, .int .i64 c.bound, vr] t)).alloc (.cells #[x0, x1, x2, x3, x4] 54)) := ((Ext.refl W).alloc _).alloc _
  have hx2 : Ext (W.alloc (.cells #[.int .i64 c.kk, vv, va, .int .i64 c.bound, vr] t)) ((W.alloc (.cells #[.int .i64 c.kk, vv, va, .int .i64 c.bound, vr] t)).alloc (.cells #[x0, x1, x2, x3, x4] 54)) := (Ext.refl _).alloc _
  have hz : (W.alloc (.cells #[.int .i64 c.kk, vv, va, .int .i64 c.bound, vr] t)).heap.size = W.heap.size + 1 := by simp
  have hz2 : ((W.alloc (.cells #[.int .i64 c.kk, vv, va, .int .i64 c.bound, vr] t)).alloc (.cells #[x0, x1, x2, x3, x4] 54)).heap.size = W.heap.size + 2 := by simp
  have hlt : W.heap.size < (W.alloc (.cells #[.int .i64 c.kk, vv, va, .int .i64 c.bound, vr] t)).heap.size := by rw [hz]; omega
  refine ⟨⟨(hx2.cells _ _ hlt).trans (World.cell?_alloc_at _ _ _ _ rfl), (hx2.cells _ _ hlt).trans (World.cell?_alloc_at _ _ _ _ rfl), (hx2.cells _ _ hlt).trans (World.cell?_alloc_at _ _ _ _ rfl), (hx2.cells _ _ hlt).trans (World.cell?_alloc_at _ _ _ _ rfl), (hx2.cells _ _ hlt).trans (World.cell?_alloc_at _ _ _ _ rfl),
    fun i => (hx2.frz _ i hlt).trans (World.frozen?_alloc_new _ _ _ _), h1.nb.ext hx, h2.nb.ext hx, h3.nb.ext hx, hv, hs, by rw [hz2]; omega, hR.grow hx, hK.trans (hx.keep _), hbr, hw⟩,
    ⟨by rw [hz2]; omega, fun i => by rw [← hz]; exact World.frozen?_alloc_new _ _ _ _, fun i hi => ?_⟩, by omega, by omega, by omega, Nat.le_refl _, hx.keep _, ⟨_, by rw [← hz]; exact World.alloc_heap_new _ _⟩⟩
  obtain rfl | rfl | rfl | rfl | rfl : i = 0 ∨ i = 1 ∨ i = 2 ∨ i = 3 ∨ i = 4 := by omega
  all_goals exact ⟨_, World.cell?_alloc_at _ _ _ _ hz.symm⟩
theorem DB.done {w0 : World} {br rb bc N : Nat} {Wo W wr w' : World} {c : Con} {vv va vr : Value} (h : DB w0 br rb bc N Wo W wr c vv va vr) (hl : c.vars.length ≤ 100 ∧ c.args.length ≤ 100) (hwo : Wo.heap.size ≤ W.heap.size) (hk : Keep (fun k => k ≠ rb) wr w') :
    (0 < c.vars.length ∧ c.vars.length ≤ 100 ∧ c.args.length ≤ 100) ∧ CV (fun k => Wo.heap.size ≤ k) w' (.agg #[.int .i64 c.kk, vv, va, .int .i64 c.bound, vr]) c ∧ RdSt w0 br N w' ∧ Keep (fun k => k ≠ br) W w' := by
  have := h.rb0
  have := h.nr
  have := h.b.w00
  exact ⟨⟨h.b.nv, hl⟩, ⟨vv, va, vr, rfl, ((h.b.iv.apart h.hc).keep hk (fun k hk => hk.2)).mono (fun k hk => hk.1.1), ((h.b.ia.apart h.hc).keep hk (fun k hk => hk.2)).mono (fun k hk => hk.1.1), ((h.b.ir.apart h.hc).keep hk (fun k hk => hk.2)).mono (fun k hk => hk.1.1)⟩,
    h.b.rd.keep hk (fun e => h.nr e.symm) (fun k hk => by omega), h.k.trans9 hk (fun k hk _ => by omega)⟩
/-- A constraint was damaged. -/
def DGot (w0 : World) (br N : Nat) (Wo W : World) (e : Ending) (W' : World) : Prop :=
  ∃ v c, e = .returned v ∧ (0 < c.vars.length ∧ c.vars.length ≤ 100 ∧ c.args.length ≤ 100) ∧ CV (fun k => Wo.heap.size ≤ k) W' v c ∧ RdSt w0 br N W' ∧ Keep (fun k => k ≠ br) W W'
set_option maxRecDepth 100000 in
set_option maxHeartbeats 8000000 in
theorem damage_any (w0 Wo : World) (br N : Nat) (W : World) (v : Value) (c : Con) (hN : N ≤ 79000) (hR : RdSt w0 br N W) (hK : Keep (fun k => k ≠ br) Wo W) (hbr : br < Wo.heap.size) (hw0 : w0.heap.size ≤ Wo.heap.size)
    (hc : CV (fun k => Wo.heap.size ≤ k) W v c) (hv : 0 < c.vars.length ∧ c.vars.length ≤ 99 ∧ c.args.length ≤ 99) :
    Calls Try.prog 73 #[.pointer (some ⟨br, 0, none⟩), v] W (DGot w0 br (N + 2) Wo W) := by
  obtain ⟨vv, va, vr, rfl, h1, h2, h3⟩ := hc
  obtain ⟨A1, e1, hv1, -⟩ := h1.form
  obtain ⟨A2, e2, hv2, -⟩ := h2.form
  obtain ⟨A3, e3, hv3, -⟩ := h3.1.form
  subst hv1 hv2 hv3
  have hs := hK.size
  have HD := hide (fun (t : TypeId) (x0 x1 x2 x3 x4 : Value) => DB.start (t := t) (x0 := x0) (x1 := x1) (x2 := x2) (x3 := x3) (x4 := x4) hR hK hbr hw0 h1 h2 h3 hv.1)
  clear hR hK h1 h2 h3
  go_enter Try.func73, Try.ntmps73
  go_wp2_with fail
  refine (pick_any w0 br N 5 _ (by omega) (by omega) (by omega) (HD.out _ _ _ _ _ _).b.rd).mono ?_
  rintro e W1 ⟨y, y0, y1, rfl, hR1, hK1⟩
  have HD1 := hide ((HD.out _ _ _ _ _ _).keep hR1 hK1)
  have hz1 : W.heap.size + 2 ≤ W1.heap.size := by have := hK1.size; simp at this; omega
  clear hR1 hK1 HD
  have hl1 := HD1.out.b.b1
  have t1 := HD1.out.b.c1
  have t2 := HD1.out.b.c2
  have t3 := HD1.out.b.c3
  have t0 := HD1.out.b.c0
  have p0 := HD1.out.b.fz 0
  have p1 := HD1.out.b.fz 1
  have p2 := HD1.out.b.fz 2
  have p3 := HD1.out.b.fz 3
  go_upto_block 0 with fail
  go_cut [3] from 5 (fun s3 wx => s3 = .pointer (some ⟨W.heap.size, 0, none⟩) ∧ ∃ c vv va vr, DB w0 br (W.heap.size + 1) W.heap.size (N + 2) Wo W wx c vv va vr ∧ c.vars.length ≤ 100 ∧ c.args.length ≤ 100)
  case first =>
    obtain rfl | rfl | rfl | rfl | rfl : y = 0 ∨ y = 1 ∨ y = 2 ∨ y = 3 ∨ y = 4 := by omega
    · skip
      go_wp2_with fail
      refine (one_any w0 br (N + 1) (0) 10 W1.heap.size 4 4 _ (by omega) (by omega) (by omega) (HD1.out.b.rd.grow ((Ext.refl _).alloc _)) (by simp) (by omega) (newL12 W1 3 [0, 10, 1, 5] (by intro x hx; simp at hx; omega)) (Nat.le_refl _)).mono ?_
      rintro e W2 ⟨z, zz0, zz1, rfl, hR2, hK2⟩
      have HD2 := hide (HD1.out.keep hR2 ((((Ext.refl W1).alloc _).keep _).trans hK2))
      clear hR2 hK2 t0 t1 t2 t3 p0 p1 p2 p3
      have hl2 := HD2.out.b.b1
      have t1 := HD2.out.b.c1
      have t2 := HD2.out.b.c2
      have t3 := HD2.out.b.c3
      have t0 := HD2.out.b.c0
      have p0 := HD2.out.b.fz 0
      have p1 := HD2.out.b.fz 1
      have p2 := HD2.out.b.fz 2
      have p3 := HD2.out.b.fz 3
      go_wp2_with fail
      go_meet
      refine ⟨rfl, _, _, _, _, HD2.out.put (HD2.out.b.set0 _), ?_, ?_⟩
      all_goals (first | omega | (dsimp only; omega) | simp)
    · have hiv := HD1.out.b.iv
      rcases hiv.1 with ⟨-, h1⟩ | ⟨g, cap, m, f, hvv, h1, h2, h3, h4⟩
      · exact absurd hv.1 (by rw [h1]; simp)
      injection hvv with hvv _ hcc
      subst hvv
      subst hcc
      have x0 : W1.cell? ⟨g, 0, none⟩ = some (.int .i64 (at0 c.vars 0)) := by rw [h3.cell (by omega), h4 0 hv.1]; rfl
      have hx0 := hiv.2.2.2 0 hv.1
      have hgl := h3.lt
      have hvl := hv.2.1
      have hv0 : 0 < (c.vars.length : Int) := by omega
      clear h1 h2 h3 h4 hiv
      go_upto_region 6 with fail
      refine wp_region_any (by kernel_rfl) ?_
      change wpAny _ _ _ _ _ _ _ (World.drew _)
      refine wpAny_take (i := 0) (v := ?_) rfl (by kernel_rfl) (by kernel_rfl) (by kernel_rfl) (by first | exact fun _ _ _ h => h | (rintro _ _ _ ⟨h, _⟩; cases h)) (Or.inl ⟨by rfl, ?hy0⟩) ?_
      case hy0 => intro w; go_simp; with_reducible rfl
      simp only [Act.put, List.getElem_toArray, List.getElem_cons_zero, List.setIfInBounds_toArray, List.set_cons_succ, List.set_cons_zero]
      refine wpAny_take (i := 3) (v := ?_) rfl (by kernel_rfl) (by kernel_rfl) (by kernel_rfl) (by first | exact fun _ _ _ h => h | (rintro _ _ _ ⟨h, _⟩; cases h)) (Or.inl ⟨by rfl, ?hy3⟩) ?_
      case hy3 => intro w; go_simp; with_reducible rfl
      simp only [Act.put, List.getElem_toArray, List.getElem_cons_zero, List.getElem_cons_succ, List.setIfInBounds_toArray, List.set_cons_succ, List.set_cons_zero]
      refine wpAny_ofK (C := fun w => w.cell? ⟨W.heap.size, 1, none⟩ = some (.slice (some ⟨g, 0, none⟩) c.vars.length e1) ∧ w.cell? ⟨g, 0, none⟩ = some (.int .i64 (at0 c.vars 0))) (n := 8) _ _ _ _ ?_
      refine wpAnyK_take 1 (.slice (some ⟨g, 0, none⟩) c.vars.length e1) rfl (by kernel_rfl) (fun _ _ _ h => h) ⟨t1, x0⟩ (And.intro (by rfl) ?hy1) ?_
      case hy1 => intro w' hw'; obtain ⟨hk1, hk2⟩ := hw'; go_simp; all_goals exact rfl
      simp only [Act.put, List.setIfInBounds_toArray, List.set_cons_succ, List.set_cons_zero]
      refine wpAnyK_take 4 (.slice (some ⟨g, 0, none⟩) c.vars.length e1) rfl (by kernel_rfl) (fun _ _ _ h => h) ⟨t1, x0⟩ (And.intro (by rfl) ?hy4) ?_
      case hy4 => intro w' hw'; obtain ⟨hk1, hk2⟩ := hw'; go_simp; all_goals exact rfl
      simp only [Act.put, List.setIfInBounds_toArray, List.set_cons_succ, List.set_cons_zero]
      refine wpAnyK_take 5 (.pointer (some ⟨g, 0, none⟩)) rfl (by kernel_rfl) (fun _ _ _ h => h) ⟨t1, x0⟩ (And.intro (by rfl) ?hy5) ?_
      case hy5 => intro w' hw'; obtain ⟨hk1, hk2⟩ := hw'; go_simp; all_goals exact rfl
      simp only [Act.put, List.setIfInBounds_toArray, List.set_cons_succ, List.set_cons_zero]
      refine wpAnyK_take 6 (.int .i64 (at0 c.vars 0)) rfl (by kernel_rfl) (fun _ _ _ h => h) ⟨t1, x0⟩ (And.intro (by rfl) ?hy6) ?_
      case hy6 => intro w' hw'; obtain ⟨hk1, hk2⟩ := hw'; go_simp; all_goals exact rfl
      simp only [Act.put, List.setIfInBounds_toArray, List.set_cons_succ, List.set_cons_zero]
      refine wpAnyK_two (i := 2) (k := 7) (by kernel_rfl) rfl rfl (by omega) (by omega) (fun K hK => ?_) (fun K hK => ?_)
      · go_simp
        refine (copyD_any _ _ _ _ (HD1.out.b.iv.ext ((Ext.refl W1).drew))).mono ?_
        rintro e W2 ⟨v2, rfl, hL2, hX2⟩
        have hX2 : Ext W1 W2 := ((Ext.refl W1).drew).trans hX2
        have hL2 : LR W1.heap.size 3 1 W2 v2 c.vars.length (-100000) 100000 := hL2
        obtain ⟨g2, cap2, rfl, -, hg2, -⟩ := hL2.form
        refine hK _ _ ⟨(hX2.cells _ _ hl1).trans t1, (hX2.cells _ _ hgl).trans x0⟩ ?_
        clear hK K
        refine wpAnyK_one (i := 7) (by kernel_rfl) rfl (by omega) (fun K hK => ?_)
        go_simp
        have HX3 := hide (hX2.alloc (.cells #[.int .i64 (at0 c.vars 0)] 3))
        refine hK _ _ ⟨(HX3.out.cells _ _ hl1).trans t1, (HX3.out.cells _ _ hgl).trans x0⟩ ?_
        clear hK K
        have HL2 := hide (hL2.ext ((Ext.refl W2).alloc (.cells #[.int .i64 (at0 c.vars 0)] 3)))
        have hone := new1 W2 3 hx0
        obtain ⟨b7, hb7⟩ : ∃ b7, b7 = W2.heap.size := ⟨_, rfl⟩
        rw [← hb7] at hone ⊢
        obtain ⟨W3, hW3⟩ : ∃ W3, W3 = W2.alloc (.cells #[.int .i64 (at0 c.vars 0)] 3) := ⟨_, rfl⟩
        rw [← hW3] at hone HX3 HL2 ⊢
        clear hL2 hX2 hW3 hb7
        refine wpAnyK_fin 8 [9, 10] (by omega) (by kernel_rfl) ?_
        simp only [nths, nth1]
        have hbw : W1.heap.size ≤ W3.heap.size := HX3.out.size
        refine wpList_appLI _ rfl _ _ rfl W1.heap.size (.slice (some ⟨g2, 0, none⟩) c.vars.length cap2) c.vars.length 1 (-100000) 100000 b7 1 rfl rfl HL2.out (by omega) hone (by omega) (by omega) ?_
        intro v3 W4 hL3 hb3
        obtain ⟨g3, cap3, rfl, -, -, -⟩ := hL3.form
        have HL3 := hide hL3
        have HD2 := hide (HD1.out.keep ((HD1.out.b.rd.grow HX3.out).far8 hb3 (by omega) (by omega)) ((HX3.out.keep _).far8 hb3))
        clear hL3 hb3 hone t0 t1 t2 t3 p0 p1 p2 p3
        have hl2 := HD2.out.b.b1
        have t1 := HD2.out.b.c1
        have p1 := HD2.out.b.fz 1
        go_wp2_with fail
        go_meet
        obtain ⟨ys, y1, y2, -⟩ := LN.iv (.inr HL3.out) (by omega) (by omega) (by omega)
        have hb0 := HD1.out.b.b0
        refine ⟨rfl, _, _, _, _, DB.mono (HD2.out.put (HD2.out.b.set1 (y2.mono (fun k hk => ⟨by omega, by omega⟩)) (by omega))) (by omega), ?_, ?_⟩
        all_goals (first | omega | (dsimp only; omega) | simp)
      · go_simp
        have hXa : Ext W1 ((W1.alloc (.cells #[.int .i64 (at0 c.vars 0)] 3)).drew) := ((Ext.refl W1).alloc _).drew
        refine hK _ _ ⟨(hXa.cells _ _ hl1).trans t1, (hXa.cells _ _ hgl).trans x0⟩ ?_
        clear hK K
        refine wpAnyK_one (i := 2) (by kernel_rfl) rfl (by omega) (fun K hK => ?_)
        go_simp
        refine (copyD_any _ _ _ _ (HD1.out.b.iv.ext hXa)).mono ?_
        rintro e W3 ⟨v2, rfl, hL2, hX2⟩
        have HX3 := hide (hXa.trans hX2)
        have HL2 := hide (hL2.mono (b0 := W1.heap.size) (l2 := -100000) (h2 := 100000) hXa.size (by omega) (by omega))
        obtain ⟨g2, cap2, rfl, -, hg2, -⟩ := hL2.form
        refine hK _ _ ⟨(HX3.out.cells _ _ hl1).trans t1, (HX3.out.cells _ _ hgl).trans x0⟩ ?_
        clear hK K
        have hone : ∀ j, j < 1 * 1 → ∃ x : Int, W3.cell? ⟨W1.heap.size, j, none⟩ = some (vI x) ∧ -100000 ≤ x ∧ x ≤ 100000 := fun j hj => by
          obtain ⟨x, q1, q2⟩ := new1 W1 3 hx0 j hj
          exact ⟨x, (hX2.cells _ _ (by show _ < (W1.alloc _).heap.size; simp)).trans q1, q2⟩
        obtain ⟨b7, hb7⟩ : ∃ b7, b7 = W1.heap.size := ⟨_, rfl⟩
        rw [← hb7] at hone ⊢
        clear hL2 hX2 hXa
        refine wpAnyK_fin 8 [9, 10] (by omega) (by kernel_rfl) ?_
        simp only [nths, nth1]
        have hbw : W1.heap.size ≤ W3.heap.size := HX3.out.size
        refine wpList_appLI _ rfl _ _ rfl W1.heap.size (.slice (some ⟨g2, 0, none⟩) c.vars.length cap2) c.vars.length 1 (-100000) 100000 b7 1 rfl rfl HL2.out (by omega) hone (by omega) (by omega) ?_
        intro v3 W4 hL3 hb3
        obtain ⟨g3, cap3, rfl, -, -, -⟩ := hL3.form
        have HL3 := hide hL3
        have HD2 := hide (HD1.out.keep ((HD1.out.b.rd.grow HX3.out).far8 hb3 (by omega) (by omega)) ((HX3.out.keep _).far8 hb3))
        clear hL3 hb3 hone t0 t1 t2 t3 p0 p1 p2 p3
        have hl2 := HD2.out.b.b1
        have t1 := HD2.out.b.c1
        have p1 := HD2.out.b.fz 1
        go_wp2_with fail
        go_meet
        obtain ⟨ys, y1, y2, -⟩ := LN.iv (.inr HL3.out) (by omega) (by omega) (by omega)
        have hb0 := HD1.out.b.b0
        refine ⟨rfl, _, _, _, _, DB.mono (HD2.out.put (HD2.out.b.set1 (y2.mono (fun k hk => ⟨by omega, by omega⟩)) (by omega))) (by omega), ?_, ?_⟩
        all_goals (first | omega | (dsimp only; omega) | simp)
    · go_wp2_with fail
      refine (copyD_any _ _ _ _ HD1.out.b.ia).mono ?_
      rintro e W2 ⟨v2, rfl, hL2, hX2⟩
      obtain ⟨g2, cap2, rfl, -, hg2, -⟩ := hL2.form
      have HL2 := hide hL2
      have HX2 := hide hX2
      have hz2 := hX2.size
      clear hL2 hX2 t0 t1 t2 t3 p0 p1 p2 p3
      have hla := hv.2.2
      go_wp2_with (at_builtin; go_must (refine wpList_appLI _ rfl _ _ rfl W1.heap.size (.slice (some ⟨g2, 0, none⟩) c.args.length cap2) c.args.length 1 (-100000) 100000 W2.heap.size 1 rfl rfl (HL2.out.ext ((Ext.refl _).alloc _)) (by omega) (new1 W2 _ (by omega)) (by omega) (by simp; omega) ?_); intro v3 W3 hL3 hb3; obtain ⟨g3, cap3, rfl, -, -, -⟩ := hL3.form; have HL3 := hide hL3; have HD2 := hide (HD1.out.keep ((HD1.out.b.rd.grow (HX2.out.alloc _)).far8 hb3 (by omega) (by omega)) (((HX2.out.alloc _).keep _).far8 hb3)); clear hL3 hb3; have hl2 := HD2.out.b.b1; have t2 := HD2.out.b.c2; have p2 := HD2.out.b.fz 2)
      go_meet
      obtain ⟨ys, y1, y2, -⟩ := LN.iv (.inr HL3.out) (by omega) (by omega) (by omega)
      have hb0 := HD1.out.b.b0
      refine ⟨rfl, _, _, _, _, DB.mono (HD2.out.put (HD2.out.b.set2 (y2.mono (fun k hk => ⟨by omega, by omega⟩)))) (by omega), ?_, ?_⟩
      all_goals (first | omega | (dsimp only; omega) | simp)
    · skip
      go_wp2_with fail
      refine (one_any w0 br (N + 1) (-1000) 1000 W1.heap.size 3 3 _ (by omega) (by omega) (by omega) (HD1.out.b.rd.grow ((Ext.refl _).alloc _)) (by simp) (by omega) (newL12 W1 3 [-1000, 1000, 5] (by intro x hx; simp at hx; omega)) (Nat.le_refl _)).mono ?_
      rintro e W2 ⟨z, zz0, zz1, rfl, hR2, hK2⟩
      have HD2 := hide (HD1.out.keep hR2 ((((Ext.refl W1).alloc _).keep _).trans hK2))
      clear hR2 hK2 t0 t1 t2 t3 p0 p1 p2 p3
      have hl2 := HD2.out.b.b1
      have t1 := HD2.out.b.c1
      have t2 := HD2.out.b.c2
      have t3 := HD2.out.b.c3
      have t0 := HD2.out.b.c0
      have p0 := HD2.out.b.fz 0
      have p1 := HD2.out.b.fz 1
      have p2 := HD2.out.b.fz 2
      have p3 := HD2.out.b.fz 3
      go_wp2_with fail
      go_meet
      refine ⟨rfl, _, _, _, _, HD2.out.put (HD2.out.b.set3 _), ?_, ?_⟩
      all_goals (first | omega | (dsimp only; omega) | simp)
    · skip
      go_wp2_with fail
      refine (one_any w0 br (N + 1) (-1) 4 W1.heap.size 2 2 _ (by omega) (by omega) (by omega) (HD1.out.b.rd.grow ((Ext.refl _).alloc _)) (by simp) (by omega) (newL12 W1 3 [-1, 4] (by intro x hx; simp at hx; omega)) (Nat.le_refl _)).mono ?_
      rintro e W2 ⟨z, zz0, zz1, rfl, hR2, hK2⟩
      have HD2 := hide (HD1.out.keep hR2 ((((Ext.refl W1).alloc _).keep _).trans hK2))
      clear hR2 hK2 t0 t1 t2 t3 p0 p1 p2 p3
      have hl2 := HD2.out.b.b1
      have t1 := HD2.out.b.c1
      have t2 := HD2.out.b.c2
      have t3 := HD2.out.b.c3
      have t0 := HD2.out.b.c0
      have p0 := HD2.out.b.fz 0
      have p1 := HD2.out.b.fz 1
      have p2 := HD2.out.b.fz 2
      have p3 := HD2.out.b.fz 3
      go_wp2_with fail
      go_meet
      refine ⟨rfl, _, _, _, _, HD2.out.one1 _ (by omega), ?_, ?_⟩
      all_goals (first | omega | (dsimp only; omega) | simp)
  case rest =>
    clear t0 t1 t2 t3 p0 p1 p2 p3 hl1 HD1
    obtain ⟨rfl, c', vv, va, vr, hd, hl1, hl2⟩ := hcut
    obtain ⟨B1, e5, hv1, -⟩ := hd.b.iv.form
    obtain ⟨B2, e6, hv2, -⟩ := hd.b.ia.form
    obtain ⟨B3, e7, hv3, -⟩ := hd.b.ir.1.form
    subst hv1 hv2 hv3
    have c0 := hd.b.c0
    have c1 := hd.b.c1
    have c2 := hd.b.c2
    have c3 := hd.b.c3
    have c4 := hd.b.c4
    have hbc := hd.b.b1
    obtain ⟨hrb1, u0, u1, u2, u3, u4, r0, r1, r2, r3, r4, z0, z1, z2, z3, z4⟩ := hd.r.five
    have HD9 := hide hd
    clear hd
    go_wp2_with fail
    refine bodyPost_ret (v := .agg #[.int .i64 c'.kk, .slice B1 c'.vars.length e5, .slice B2 c'.args.length e6, .int .i64 c'.bound, .slice B3 c'.rows.length e7]) (by simp only [results, Try.results73]; go_simp) rfl ?_
    obtain ⟨q1, q2, q3, q4⟩ := HD9.out.done ⟨hl1, hl2⟩ hs (w' := ((((wc.setCell ⟨W.heap.size + 1, 0, none⟩ (.int .i64 c'.kk)).setCell ⟨W.heap.size + 1, 1, none⟩ (.slice B1 c'.vars.length e5)).setCell ⟨W.heap.size + 1, 2, none⟩ (.slice B2 c'.args.length e6)).setCell ⟨W.heap.size + 1, 3, none⟩ (.int .i64 c'.bound)).setCell ⟨W.heap.size + 1, 4, none⟩ (.slice B3 c'.rows.length e7)) (by (repeat refine Keep.set ?_ (fun _ hh => hh rfl) _); exact Keep.refl _ _)
    exact ⟨_, c', rfl, q1, q2, q3, q4⟩
end Go.Proofs.Ytgeflejmdlipmaa
