/- Draws of automata: an automaton that may be invalid. -/
import Derived.Test.YtachgijdopfghaaAuF
import Derived.Test.YtachgijdopfghaaDrwB
namespace Go.Proofs.Ytachgijdopfghaa
open Go.RowKit
attribute [local go_sem] evalOf

theorem LN.lt9 {base : Nat} {w : World} {v : Value} {n : Nat} {lo hi : Int} (h : LN base w v n lo hi) : ∀ g, v.ownBlock = some g → g < w.heap.size := by
  obtain ⟨xs, h1, -⟩ := h.owns
  exact fun g hg => (World.ownsRow.lt h1 g hg).2
/-- An automaton stands in block mb. -/
structure AJ (w0 : World) (br rb mb B N n m : Nat) (W wr : World) (nx fn : Value) : Prop where
  c0 : wr.cell? ⟨mb, 0, none⟩ = some nx
  c1 : wr.cell? ⟨mb, 1, none⟩ = some fn
  fz : ∀ i, wr.frozen? ⟨mb, i, none⟩ = false
  t : LTab (fun k => W.heap.size ≤ k ∧ k < B) (fun l => l = 6) wr nx n (-1) 5
  f : LN B wr fn m (-1) 8
  fb : ∀ g, fn.ownBlock = some g → g < mb
  b0 : B ≤ mb
  bB : W.heap.size ≤ B
  b1 : mb < wr.heap.size
  r : RB rb 2 wr
  r1 : rb ≠ br
  r2 : rb < W.heap.size
  rd : RdSt w0 br N wr
  kp : Keep (fun k => k ≠ br) W wr
  br0 : br < W.heap.size
  w00 : w0.heap.size ≤ W.heap.size
theorem AJ.start {w0 : World} {br rb B N n m : Nat} {W wr : World} {nx fn : Value} (ty : TypeId) (ht : LTab (fun k => W.heap.size ≤ k ∧ k < B) (fun l => l = 6) wr nx n (-1) 5) (hf : LN B wr fn m (-1) 8) (hB : W.heap.size ≤ B) (hB2 : B ≤ wr.heap.size) (hr : RB rb 2 W) (hrb : rb ≠ br) (hr2 : rb < W.heap.size) (hR : RdSt w0 br N wr) (hK : Keep (fun k => k ≠ br) W wr) (hbr : br < W.heap.size) (hw0 : w0.heap.size ≤ W.heap.size) :
    AJ w0 br rb wr.heap.size B N n m W (wr.alloc (.cells #[nx, fn] ty)) nx fn := by
  have hx : Ext wr (wr.alloc (.cells #[nx, fn] ty)) := (Ext.refl wr).alloc _
  exact ⟨World.cell?_alloc_at _ _ _ _ rfl, World.cell?_alloc_at _ _ _ _ rfl, fun i => World.frozen?_alloc_new _ _ _ _, ht.ext hx, hf.ext hx, hf.lt9, hB2, hB, by simp, (hr.keep hK hrb).keep (hx.keep (fun _ => True)) trivial, hrb, hr2, hR.grow hx, hK.trans (hx.keep _), hbr, hw0⟩
theorem AJ.keep {w0 : World} {br rb mb B N M n m : Nat} {W wr w2 : World} {nx fn : Value} (h : AJ w0 br rb mb B N n m W wr nx fn) (hR : RdSt w0 br M w2) (hK : Keep (fun k => k ≠ br) wr w2) : AJ w0 br rb mb B M n m W w2 nx fn := by
  have h1 := h.br0
  have h2 := h.b0
  have h3 := h.bB
  have hb : mb ≠ br := by omega
  exact ⟨(hK.cell (p := ⟨mb, 0, none⟩) h.b1 hb).trans h.c0, (hK.cell (p := ⟨mb, 1, none⟩) h.b1 hb).trans h.c1, fun i => (hK.frz (p := ⟨mb, i, none⟩) h.b1 hb).trans (h.fz i),
    h.t.keep hK (fun k hk => by omega), h.f.keep hK (fun k hk => by omega), h.fb, h.b0, h.bB, Nat.lt_of_lt_of_le h.b1 hK.size, h.r.keep hK h.r1, h.r1, h.r2, hR, h.kp.trans hK, h.br0, h.w00⟩
theorem AJ.mono {w0 : World} {br rb mb B N M n m : Nat} {W wr : World} {nx fn : Value} (h : AJ w0 br rb mb B N n m W wr nx fn) (hM : N ≤ M) : AJ w0 br rb mb B M n m W wr nx fn := h.keep (h.rd.mono hM) (Keep.refl _ _)
/-- An automaton came that may be invalid. -/
def XAGot (w0 : World) (br N : Nat) (W : World) (e : Ending) (W' : World) : Prop :=
  ∃ nx fn n m, e = .returned (.agg #[nx, fn]) ∧ 1 ≤ n ∧ n ≤ 16 ∧ m ≤ 5 ∧ LTab (fun k => W.heap.size ≤ k) (fun l => l ≤ 6) W' nx n (-2) 5 ∧ LN W.heap.size W' fn m (-1) 8 ∧ RdSt w0 br N W' ∧ Keep (fun k => k ≠ br) W W'
theorem LN.base9 {A B : Nat} {w : World} {v : Value} {n : Nat} {lo hi : Int} (h : LN A w v n lo hi) (hB : B ≤ A) : LN B w v n lo hi := h.imp id (fun h => h.mono hB (Int.le_refl _) (Int.le_refl _))
theorem XAGot.done {w0 : World} {br N n m : Nat} {W Wb wr w' : World} {nx fn : Value} (ht : LTab (fun k => Wb.heap.size ≤ k) (fun l => l ≤ 6) wr nx n (-2) 5) (hf : LN Wb.heap.size wr fn m (-1) 8) (hR : RdSt w0 br N wr) (hKb : Keep (fun k => k ≠ br) Wb wr) (hx : Ext W Wb) (hs : Wb.heap.size = W.heap.size + 1) (hk : Keep (fun k => k ≠ W.heap.size) wr w') (hbr : br < W.heap.size) (hw : w0.heap.size ≤ W.heap.size) (h1 : 1 ≤ n) (h2 : n ≤ 16) (h3 : m ≤ 5) :
    XAGot w0 br N W (.returned (.agg #[nx, fn])) w' :=
  ⟨nx, fn, n, m, rfl, h1, h2, h3, (ht.keep hk (fun k hk => by omega)).mono (fun k hk => by omega) (fun _ h => h) (Int.le_refl _) (Int.le_refl _), (hf.keep hk (fun k hk => by omega)).base9 (by omega), hR.keep hk (by omega) (fun k hk => by omega), ((hx.keep _).trans hKb).trans9 hk (fun k hk _ => by omega)⟩
/-- A fresh list of numbers of a range. -/
def NumsAt (br n : Nat) (lo hi : Int) (v : Value) (w : World) : Prop :=
  ∃ b, v = .slice (some ⟨b, 0, none⟩) n n ∧ b < w.heap.size ∧ b ≠ br ∧ ∀ i, i < n → ∃ x : Int, w.cell? ⟨b, i, none⟩ = some (vI x) ∧ lo ≤ x ∧ x ≤ hi
theorem NumsAt.keep {br n : Nat} {lo hi : Int} {v : Value} {w w' : World} (h : NumsAt br n lo hi v w) (hk : Keep (fun k => k ≠ br) w w') : NumsAt br n lo hi v w' := by
  obtain ⟨b, h1, h2, h3, h4⟩ := h
  exact ⟨b, h1, Nat.lt_of_lt_of_le h2 hk.size, h3, fun i hi => by obtain ⟨x, q1, q2⟩ := h4 i hi; exact ⟨x, (hk.cell (p := ⟨b, i, none⟩) h2 h3).trans q1, q2⟩⟩
theorem NumsAt.new {br : Nat} {lo hi : Int} (w : World) (t : TypeId) (xs : List Int) (h : ∀ x ∈ xs, lo ≤ x ∧ x ≤ hi) (hb : br < w.heap.size) : NumsAt br xs.length lo hi (.slice (some ⟨w.heap.size, 0, none⟩) xs.length xs.length) (w.alloc (.cells (xs.map vI).toArray t)) :=
  ⟨_, rfl, by simp, by omega, newL12 w t xs h⟩
/-- The header of row 0 is written: its block, a length that P tells. -/
theorem LTab.setr {S P : Nat → Prop} {w : World} {v : Value} {n i g cap : Nat} {lo hi : Int} (h : LTab S P w v n lo hi) (hi' : i < n) (hv : v = .slice (some ⟨g, 0, none⟩) n cap) {u : Value} (hu : LRow S P w u lo hi) : LTab S P (w.setCell ⟨g, i, none⟩ u) v n lo hi := by
  obtain ⟨cells, h1, h2, h3⟩ := h
  have hcl : cells.length = n := by simpa using h1.1
  rcases h1.2 with ⟨-, e2⟩ | ⟨g', cap', cur, e1, hb, hh, hnc, hm, hcs, htk⟩
  · omega
  · rw [hv] at e1
    injection e1 with e1 _ e3
    injection e1 with e1
    injection e1 with e1
    subst e1 e3
    have hrow : ∀ {cv : Value}, LRow S P w cv lo hi → LRow S P (w.setCell ⟨g, i, none⟩ u) cv lo hi := by
      rintro cv ⟨b, l, cp, m, f, q0, q1, q2, q3, q4, q5, q6⟩
      refine ⟨b, l, cp, m, f, q0, q1, q2, q3, q4, q5.setOther ?_ _, q6⟩
      rintro rfl
      obtain ⟨cur', k2, -⟩ := q5
      rw [hh] at k2
      injection k2 with k2
      injection k2 with _ k3
      cases k3
    refine ⟨cells.set i u, ⟨by simp; omega, .inr ⟨g, cap, cur.setIfInBounds i u, hv, hb, ?_, hnc, hm, by simpa using hcs, ?_⟩⟩, h2, fun j hj => ?_⟩
    · simp [World.setCell, Array.getElem?_modify, hh]
    · rw [← htk, Array.toList_setIfInBounds, List.take_set]
    · by_cases e : i = j
      · subst e
        exact ⟨u, List.getElem?_set_self (by omega), hrow hu⟩
      · obtain ⟨cv, q1, q2⟩ := h3 j hj
        exact ⟨cv, by rw [List.getElem?_set_ne e]; exact q1, hrow q2⟩
theorem LN.keepO {base : Nat} {w w' : World} {v : Value} {n : Nat} {lo hi : Int} {S : Nat → Prop} (h : LN base w v n lo hi) (hk : Keep S w w') (hS : ∀ g, v.ownBlock = some g → S g) : LN base w' v n lo hi := h.imp id (fun h => h.keepb hk hS)
theorem grown_keep9 {w w' : World} {row : Option Nat} {S : Nat → Prop} (h : w.grownBy w' row) (hS : ∀ k, S k → row ≠ some k) : Keep S w w' :=
  ⟨h.os, h.tape, h.output, h.size, fun k hk hs => h.block k hk (fun e => hS k hs e.symm)⟩
/-- What a change that spares the automaton's struct leaves. -/
theorem AJ.under {w0 : World} {br rb mb B N n m : Nat} {W wr w6 : World} {nx fn : Value} {S : Nat → Prop} (h : AJ w0 br rb mb B N n m W wr nx fn) (hk : Keep S wr w6) (hm : S mb) (hS : ∀ k, k < W.heap.size → S k) :
    w6.cell? ⟨mb, 0, none⟩ = some nx ∧ w6.cell? ⟨mb, 1, none⟩ = some fn ∧ (∀ i, w6.frozen? ⟨mb, i, none⟩ = false) ∧ mb < w6.heap.size ∧ RB rb 2 w6 ∧ RdSt w0 br N w6 ∧ Keep (fun k => k ≠ br) W w6 := by
  have h1 := h.br0
  have h2 := h.w00
  have h3 := h.r2
  exact ⟨(hk.cell (p := ⟨mb, 0, none⟩) h.b1 hm).trans h.c0, (hk.cell (p := ⟨mb, 1, none⟩) h.b1 hm).trans h.c1, fun i => (hk.frz (p := ⟨mb, i, none⟩) h.b1 hm).trans (h.fz i), Nat.lt_of_lt_of_le h.b1 hk.size, h.r.keep hk (hS _ h3), h.rd.keep hk (hS _ h1) (fun k hk => hS k (by omega)), h.kp.trans9 hk (fun k hk _ => hS k hk)⟩
/-- append of one number: which block is written. -/
theorem wpList_appLNG (w : World) {ops : Array Oper} {rest : List Oper} {o : Oper} {a : Act} {Q : Exit → Act → World → Prop} (hgd : o.guard = none) (s x : Operand)
    (ho : o.op = .call { callee := .builtin .append, args := #[s, x], argTypes := #[24, 24] })
    (base : Nat) (v : Value) (n : Nat) (lo hi y : Int) (b c : Nat) (hs : a.eval s = v) (hx : a.eval x = .slice (some ⟨b, 0, none⟩) 1 c)
    (hown : LN base w v n lo hi) (hc : w.cell? ⟨b, 0, none⟩ = some (.int .i64 y)) (hy : lo ≤ y ∧ y ≤ hi) (hl : n + 1 ≤ 1000000) (hbase : base ≤ w.heap.size)
    (h : ∀ v' w', LR base 3 1 w' v' (n + 1) lo hi → w.grownBy w' v.ownBlock → (∀ g, v'.ownBlock = some g → v.ownBlock = some g ∨ w.heap.size ≤ g) → wpList Try.prog ops Q rest (a.put o.dst v') w') : wpList Try.prog ops Q (o :: rest) a w := by
  obtain ⟨i, hi', hz, hsz, hby⟩ := Try.infoIp
  obtain ⟨xs, h1, h2⟩ := hown.owns
  obtain ⟨v', w', hrun, e2, e3, e4⟩ := run_append_kind (P := Try.prog) w base 24 o.type 3 i _ 8 Try.underlying24 hi' hz hsz hby rfl v n xs h1 b c _ hc rfl (by unfold maxLen; omega) (by omega) hbase
  refine wpList_plain hgd fun K hK => ?_
  unfold Oper.wp
  simp [execOp, ho, resolve, invoke, builtin, hs, hx, hrun, Result.andThen]
  refine hK _ _ (h v' w' (LR.of_owns e2 (by omega) (fun u hu => ?_)) e3 e4)
  rcases List.mem_append.1 hu with hu | hu
  · exact h2 u hu
  · simp at hu; subst hu; exact ⟨y, rfl, hy.1, hy.2⟩
/-- append of table to table, in a drawn region. -/
theorem step_appLT (w : World) {ops : Array Oper} {o : Oper} {a : Act} {K : Act → World → Prop} {Q : Exit → Act → World → Prop} {E : Prop} (hgd : o.guard = none) (s x : Operand)
    (ho : o.op = .call { callee := .builtin .append, args := #[s, x], argTypes := #[23, 23] })
    (S P : Nat → Prop) (v v2 : Value) (n m : Nat) (lo hi : Int) (hs : a.eval s = v) (hx : a.eval x = v2) (h1 : LTab S P w v n lo hi) (h2 : LTab S P w v2 m lo hi) (hm : 0 < m) (hl : n + m ≤ 1000) (hS : ∀ k, w.heap.size ≤ k → S k)
    (h : ∀ v' w', LTab S P w' v' (n + m) lo hi → w.grownBy w' v.ownBlock → K (a.put o.dst v') w') : if Region.wanted o (yielded ops a.tmps) = true then Oper.wp Try.prog o a w K Q else E := by
  have hw : Region.wanted o (yielded ops a.tmps) = true := by simp [Region.wanted, hgd]
  rw [if_pos hw]
  obtain ⟨v', w', hrun, e1, e2⟩ := run_appLTab S P w o.type v v2 n m lo hi h1 h2 hm hl hS
  unfold Oper.wp
  simp [execOp, ho, resolve, invoke, builtin, hs, hx, hrun, Result.andThen]
  exact h v' w' e1 e2
set_option maxRecDepth 100000 in
set_option maxHeartbeats 8000000 in
theorem anyAutomaton_any (w0 : World) (br N : Nat) (W : World) (hN : N ≤ 60000) (hR : RdSt w0 br N W) :
    Calls Try.prog 18 #[.pointer (some ⟨br, 0, none⟩)] W (XAGot w0 br (N + 80) W) := by
  have HR := hide hR
  have hbr := hR.lt
  have hw0 := hR.ext.size
  clear hR
  go_enter Try.func18, Try.ntmps18
  go_wp2_with fail
  refine (automaton_any w0 br N _ (by omega) (HR.out.grow ((Ext.refl W).alloc _))).mono ?_
  rintro e W1 ⟨nx, fn, n, m, B, rfl, hn1, hn4, hm4, hB1, hB2, hT, hF, hR1, hK1⟩
  obtain ⟨An, cn, hv, hcn⟩ := hT.form
  obtain ⟨Af, cf, hv2, hcf⟩ := hF.form
  subst hv hv2
  obtain ⟨Wb, hWb⟩ : ∃ Wb, Wb = W.alloc (.cells #[.slice none 0 0, .slice none 0 0] 26) := ⟨_, rfl⟩
  rw [← hWb] at hB1 hT hK1
  obtain ⟨hxb, hsb, hbb⟩ : Ext W Wb ∧ Wb.heap.size = W.heap.size + 1 ∧ RB W.heap.size 2 Wb := by
    subst hWb
    refine ⟨(Ext.refl W).alloc _, by simp, ⟨by simp, fun i => World.frozen?_alloc_new _ _ _ _, fun i hi => ?_⟩⟩
    obtain rfl | rfl : i = 0 ∨ i = 1 := by omega
    all_goals exact ⟨_, World.cell?_alloc_at _ _ _ _ rfl⟩
  clear hWb
  have HJ := hide (AJ.start 26 hT hF hB1 hB2 hbb (by omega) (by omega) hR1 hK1 (by omega) (by omega))
  have HXB := hide hxb
  have HSB := hide hsb
  have hz1 := hK1.size
  clear hT hF hR1 hK1 hbb hxb
  go_wp2_with fail
  refine (pick_any w0 br (N + 60) 20 _ (by omega) (by omega) (by omega) HJ.out.rd).mono ?_
  rintro e W2 ⟨z, z0, z1, rfl, hR2, hK2⟩
  have hJ2 := HJ.out.keep hR2 hK2
  have m0 := hJ2.c0
  have m1 := hJ2.c1
  have y0 := hJ2.fz 0
  have y1 := hJ2.fz 1
  have hml := hJ2.b1
  have hmbr : W1.heap.size ≠ br := by omega
  have hBw := hJ2.bB
  have hBm := hJ2.b0
  obtain ⟨g, cap, b, l, cp, m', f, hv, hnc, hSg, hgl, hgb, hgc, hgz, rfl, hlc, hlm, hSb, hbl, hrow, hf⟩ := hJ2.t.row (i := 0) (by omega)
  injection hv with hv1 hv2 hv3
  subst hv1 hv3
  have hgbr : g ≠ br := by omega
  have hn0 : ¬ n = 0 := by omega
  have hbbr : b ≠ br := by omega
  have hbm : W1.heap.size ≠ b := by omega
  have hgm : W1.heap.size ≠ g := by omega
  have HRW := hide hrow
  have HFW := hide hf
  have HJ2 := hide hJ2
  have HR2 := hide hR2
  clear hJ2 hR2 hK2 HJ hv2 hrow hf
  by_cases h0 : z = 0
  · subst h0
    go_upto_region 4 with fail
    refine wp_region_relKT (Rl := Keep (fun k => k ≠ br)) (n := 13) (ts := [13]) (sp := [RK.q [] (fun _ => .pointer (some ⟨W1.heap.size, 0, none⟩)), RK.q [0] (fun _ => .slice (some ⟨g, 0, none⟩) n cn), RK.q [1] (fun _ => .pointer (some ⟨g, 0, none⟩)), RK.q [2] (fun _ => .slice (some ⟨b, 0, none⟩) 6 cp), RK.q [] (fun _ => .pointer (some ⟨br, 0, none⟩)), RK.p [4] (fun _ v => ∃ z : Int, 0 ≤ z ∧ z ≤ 5 ∧ v = .int .i64 z), RK.q [] (fun _ => .pointer (some ⟨br, 0, none⟩)), RK.q [] (fun _ => .pointer (some ⟨W1.heap.size, 0, none⟩)), RK.q [7] (fun _ => .slice (some ⟨g, 0, none⟩) n cn), RK.q [8] (fun _ => .int .i64 n), ⟨[9], fun _ v w => NumsAt br 2 (-2) 5 v w, fun _ _ _ _ h hk => h.keep hk⟩, RK.p [6, 10] (fun _ v => ∃ z : Int, -2 ≤ z ∧ z ≤ 5 ∧ v = .int .i64 z), RK.p [3, 5] (fun _ v => ∃ k : Nat, k < 6 ∧ v = .pointer (some ⟨b, k, none⟩))])
      (RdC w0 br (N + 61) 13 W2) (by kernel_rfl) (relOKK (D := [[], [0], [1], [2], [], [4], [], [], [7], [8], [9], [6, 10], [3, 5]]) rfl (by kernel_rfl) rfl) (by kernel_rfl) (fun m w h => by exact h.le) (fun w => by exact Keep.refl _ _) (RdC.start 13 HR2.out) ?steps ?ends
    case steps =>
      refine ⟨?_, ?_, ?_, ?_, ?_, ?_, ?_, ?_, ?_, ?_, ?_, ?_, ?_, trivial⟩
      · intro m V τ W hC hf ht h0
        have s3 : τ 3 = .pointer (some ⟨W1.heap.size, 0, none⟩) := h0 3 (by kernel_rfl)
        refine Does.val (w' := W) (v := .pointer (some ⟨W1.heap.size, 0, none⟩)) ?_ ⟨(by exact Keep.refl _ _), (by exact hC.le), rfl⟩
        clear h0 ht hf
        go_simp
      · intro m V τ W hC hf ht h0
        have f0 : V 0 = .pointer (some ⟨W1.heap.size, 0, none⟩) := hf 0 (show 0 ∈ [0] by decide)
        have s10 := (ht 0 (show 0 ∈ [0] by decide) 10 rfl).trans f0
        have c1 := (hC.kp.cell (p := ⟨W1.heap.size, 0, none⟩) hml hmbr).trans m0
        refine Does.val (w' := W) (v := .slice (some ⟨g, 0, none⟩) n cn) ?_ ⟨(by exact Keep.refl _ _), (by exact hC.le), rfl⟩
        clear h0 ht hf
        go_simp
      · intro m V τ W hC hf ht h0
        have f1 : V 1 = .slice (some ⟨g, 0, none⟩) n cn := hf 1 (show 1 ∈ [1] by decide)
        have s11 := (ht 1 (show 1 ∈ [1] by decide) 11 rfl).trans f1
        refine Does.val (w' := W) (v := .pointer (some ⟨g, 0, none⟩)) ?_ ⟨(by exact Keep.refl _ _), (by exact hC.le), rfl⟩
        clear h0 ht hf
        go_simp
      · intro m V τ W hC hf ht h0
        have f2 : V 2 = .pointer (some ⟨g, 0, none⟩) := hf 2 (show 2 ∈ [2] by decide)
        have s12 := (ht 2 (show 2 ∈ [2] by decide) 12 rfl).trans f2
        have c3 := (hC.kp.cell (p := ⟨g, 0, none⟩) hgl hgbr).trans hgc
        refine Does.val (w' := W) (v := .slice (some ⟨b, 0, none⟩) 6 cp) ?_ ⟨(by exact Keep.refl _ _), (by exact hC.le), rfl⟩
        clear h0 ht hf
        go_simp
      · intro m V τ W hC hf ht h0
        have s0 : τ 0 = .pointer (some ⟨br, 0, none⟩) := h0 0 (by kernel_rfl)
        refine Does.val (w' := W) (v := .pointer (some ⟨br, 0, none⟩)) ?_ ⟨(by exact Keep.refl _ _), (by exact hC.le), rfl⟩
        clear h0 ht hf
        go_simp
      · intro m V τ W hC hf ht h0
        have f4 : V 4 = .pointer (some ⟨br, 0, none⟩) := hf 4 (show 4 ∈ [4] by decide)
        have s14 := (ht 4 (show 4 ∈ [4] by decide) 14 rfl).trans f4
        obtain ⟨M, hR, hM, hnext⟩ := hC.step (by omega)
        refine Does.call (w' := W) (f := 37) (args := #[.pointer (some ⟨br, 0, none⟩), .int .i64 6]) (by go_simp; all_goals (first | exact rfl | (apply And.intro <;> exact rfl))) ?_
        refine (pick_any w0 br M 6 W (by omega) (by omega) hM hR).mono ?_
        rintro e wa ⟨z, z0, z1, rfl, hR1, hK1⟩
        exact ⟨_, rfl, hK1, hnext _ hR1 hK1, z, by omega, by omega, rfl⟩
      · intro m V τ W hC hf ht h0
        have s0 : τ 0 = .pointer (some ⟨br, 0, none⟩) := h0 0 (by kernel_rfl)
        refine Does.val (w' := W) (v := .pointer (some ⟨br, 0, none⟩)) ?_ ⟨(by exact Keep.refl _ _), (by exact hC.le), rfl⟩
        clear h0 ht hf
        go_simp
      · intro m V τ W hC hf ht h0
        have s3 : τ 3 = .pointer (some ⟨W1.heap.size, 0, none⟩) := h0 3 (by kernel_rfl)
        refine Does.val (w' := W) (v := .pointer (some ⟨W1.heap.size, 0, none⟩)) ?_ ⟨(by exact Keep.refl _ _), (by exact hC.le), rfl⟩
        clear h0 ht hf
        go_simp
      · intro m V τ W hC hf ht h0
        have f7 : V 7 = .pointer (some ⟨W1.heap.size, 0, none⟩) := hf 7 (show 7 ∈ [7] by decide)
        have s17 := (ht 7 (show 7 ∈ [7] by decide) 17 rfl).trans f7
        have c1 := (hC.kp.cell (p := ⟨W1.heap.size, 0, none⟩) hml hmbr).trans m0
        refine Does.val (w' := W) (v := .slice (some ⟨g, 0, none⟩) n cn) ?_ ⟨(by exact Keep.refl _ _), (by exact hC.le), rfl⟩
        clear h0 ht hf
        go_simp
      · intro m V τ W hC hf ht h0
        have f8 : V 8 = .slice (some ⟨g, 0, none⟩) n cn := hf 8 (show 8 ∈ [8] by decide)
        have s18 := (ht 8 (show 8 ∈ [8] by decide) 18 rfl).trans f8
        refine Does.val (w' := W) (v := .int .i64 n) ?_ ⟨(by exact Keep.refl _ _), (by exact hC.le), rfl⟩
        clear h0 ht hf
        go_simp
      · intro m V τ W hC hf ht h0
        have f9 : V 9 = .int .i64 n := hf 9 (show 9 ∈ [9] by decide)
        have s19 := (ht 9 (show 9 ∈ [9] by decide) 19 rfl).trans f9
        have hsz := hC.size
        refine Does.val (w' := W.alloc (.cells #[.int .i64 (-2), .int .i64 n] 3)) (v := .slice (some ⟨W.heap.size, 0, none⟩) 2 2) ?_ ⟨((Ext.refl W).alloc _).keep _, hC.ext ((Ext.refl W).alloc _), (by exact NumsAt.new W _ [-2, n] (by intro x hx; simp at hx; omega) (by omega))⟩
        clear h0 ht hf
        go_simp
      · intro m V τ W hC hf ht h0
        have f6 : V 6 = .pointer (some ⟨br, 0, none⟩) := hf 6 (show 6 ∈ [6, 10] by decide)
        have s16 := (ht 6 (show 6 ∈ [6, 10] by decide) 16 rfl).trans f6
        have f10 := hf 10 (show 10 ∈ [6, 10] by decide)
        have s20 : τ 20 = V 10 := ht 10 (show 10 ∈ [6, 10] by decide) 20 rfl
        obtain ⟨bl, hbl, hb1, hb2, hb3⟩ := f10
        rw [hbl] at s20
        obtain ⟨M, hM, hR, hKk⟩ := hC
        refine Does.call (w' := W) (f := 19) (args := #[.pointer (some ⟨br, 0, none⟩), .slice (some ⟨bl, 0, none⟩) 2 2]) (by go_simp; all_goals (first | exact rfl | (apply And.intro <;> exact rfl))) ?_
        refine (one_any w0 br M (-2) 5 bl 2 2 W (by omega) (by omega) (by omega) hR hb1 hb2 hb3 (Nat.le_refl _)).mono ?_
        rintro e wa ⟨z, z0, z1, rfl, hR1, hK1⟩
        exact ⟨_, rfl, hK1, ⟨M + 1, by omega, hR1, hKk.trans hK1⟩, z, by omega, by omega, rfl⟩
      · intro m V τ W hC hf ht h0
        have f3 : V 3 = .slice (some ⟨b, 0, none⟩) 6 cp := hf 3 (show 3 ∈ [3, 5] by decide)
        have s13 := (ht 3 (show 3 ∈ [3, 5] by decide) 13 rfl).trans f3
        have f5 : ∃ z : Int, 0 ≤ z ∧ z ≤ 5 ∧ V 5 = .int .i64 z := hf 5 (show 5 ∈ [3, 5] by decide)
        have s15 : τ 15 = V 5 := ht 5 (show 5 ∈ [3, 5] by decide) 15 rfl
        obtain ⟨z, z0, z1, hz⟩ := f5
        rw [hz] at s15
        obtain ⟨k, rfl⟩ : ∃ k : Nat, z = k := ⟨z.toNat, by omega⟩
        have hk6 : (k : Int) < 6 := by omega
        have hk7 : k < 6 := by omega
        refine Does.val (w' := W) (v := .pointer (some ⟨b, k, none⟩)) ?_ ⟨Keep.refl _ _, hC.le, k, by omega, rfl⟩
        clear h0 ht hf
        go_simp
    case ends =>
      intro V W hC hf
      have e0 : V 0 = .pointer (some ⟨W1.heap.size, 0, none⟩) := hf 0 (by omega)
      have e1 : V 1 = .slice (some ⟨g, 0, none⟩) n cn := hf 1 (by omega)
      have e2 : V 2 = .pointer (some ⟨g, 0, none⟩) := hf 2 (by omega)
      have e3 : V 3 = .slice (some ⟨b, 0, none⟩) 6 cp := hf 3 (by omega)
      have e4 : V 4 = .pointer (some ⟨br, 0, none⟩) := hf 4 (by omega)
      have e5 : ∃ z : Int, 0 ≤ z ∧ z ≤ 5 ∧ V 5 = .int .i64 z := hf 5 (by omega)
      have e6 : V 6 = .pointer (some ⟨br, 0, none⟩) := hf 6 (by omega)
      have e7 : V 7 = .pointer (some ⟨W1.heap.size, 0, none⟩) := hf 7 (by omega)
      have e8 : V 8 = .slice (some ⟨g, 0, none⟩) n cn := hf 8 (by omega)
      have e9 : V 9 = .int .i64 n := hf 9 (by omega)
      have e10 := hf 10 (by omega)
      have e11 : ∃ z : Int, -2 ≤ z ∧ z ≤ 5 ∧ V 11 = .int .i64 z := hf 11 (by omega)
      have e12 : ∃ k : Nat, k < 6 ∧ V 12 = .pointer (some ⟨b, k, none⟩) := hf 12 (by omega)
      clear hf
      obtain ⟨hRf, hKf⟩ := hC.fin
      obtain ⟨z5, -, -, e5⟩ := e5
      obtain ⟨bl, e10, -, -, -⟩ := e10
      obtain ⟨z, zz0, zz1, e11⟩ := e11
      obtain ⟨k, k6, e12⟩ := e12
      simp only [List.take_succ_cons, List.take_zero, putAll, Act.put, List.setIfInBounds_toArray, List.set_cons_succ, List.set_cons_zero, Nat.reduceAdd, e0, e1, e2, e3, e4, e5, e6, e7, e8, e9, e10, e11, e12]
      try simp only [nths, nth1]
      clear e0 e1 e2 e3 e4 e5 e6 e7 e8 e9 e10 e11 e12
      have hrw := hKf.row hbbr HRW.out
      have hkc := hrw.cell (i := k) (by omega)
      have hkz := hrw.frozen k
      have HJ8 := hide (HJ2.out.keep hRf hKf)
      obtain ⟨w9, hw9⟩ : ∃ w9, w9 = W.setCell ⟨b, k, none⟩ (.int .i64 z) := ⟨_, rfl⟩
      have hk9 : Keep (fun k => k ≠ b) W w9 := by rw [hw9]; exact (Keep.refl _ _).set (p := ⟨b, k, none⟩) (fun _ hh => hh rfl) _
      have m0 := (hk9.cell (p := ⟨W1.heap.size, 0, none⟩) HJ8.out.b1 hbm).trans HJ8.out.c0
      have m1 := (hk9.cell (p := ⟨W1.heap.size, 1, none⟩) HJ8.out.b1 hbm).trans HJ8.out.c1
      have hml9 := Nat.lt_of_lt_of_le HJ8.out.b1 hk9.size
      obtain ⟨hrl, u0, u1, r0, r1, z0', z1'⟩ := (HJ8.out.r.keep hk9 (by omega)).two
      have hT9 : LTab (fun k => Wb.heap.size ≤ k) (fun l => l ≤ 6) w9 (.slice (some ⟨g, 0, none⟩) n cn) n (-2) 5 := by rw [hw9]; exact (HJ8.out.t.mono (fun k hk => hk.1) (fun l hl => by omega) (by omega) (Int.le_refl _)).setn hrw k ⟨zz0, zz1⟩
      have hF9 := HJ8.out.f.keep hk9 (fun k hk => by omega)
      have hR9 := (HJ8.out.rd.keep hk9 (by omega) (fun k hk => by omega)).mono (M := N + 80) (by omega)
      have hK9 := HJ8.out.kp.trans9 hk9 (fun k hk _ => by omega)
      have HT9 := hide hT9
      have HF9 := hide (hF9.base9 (B := Wb.heap.size) (by omega))
      have HR9 := hide hR9
      have HK9 := hide hK9
      clear hrw hRf hKf hT9 hF9 hR9 hK9 hk9 hC
      go_upto_region 11 with fail
      rw [← hw9]
      clear hw9
      go_wp2_with fail
      refine bodyPost_ret (v := .agg #[.slice (some ⟨g, 0, none⟩) n cn, .slice Af m cf]) (by simp only [results, Try.results18]; go_simp) rfl ?_
      exact XAGot.done (n := n) (m := m) (HT9.out) (HF9.out) (HR9.out) (HK9.out) HXB.out HSB.out (by (repeat refine Keep.set ?_ (fun _ hh => hh rfl) _); exact Keep.refl _ _) (by omega) (by omega) (by omega) (by omega) (by omega)
  · have h0b : (z == 0) = false := by simp [h0]
    by_cases h1 : z = 1
    · subst h1
      go_upto_region 6 with fail
      refine wp_region_any (by kernel_rfl) ?_
      change wpAny _ _ _ _ _ _ _ (World.drew _)
      refine wpAny_take (i := 0) (v := ?_) rfl (by kernel_rfl) (by kernel_rfl) (by kernel_rfl) (by first | exact fun _ _ _ h => h | (rintro _ _ _ ⟨h, _⟩; cases h)) (Or.inl ⟨by rfl, ?hy0⟩) ?_
      case hy0 => intro w; go_simp; with_reducible rfl
      simp only [Act.put, List.getElem_toArray, List.getElem_cons_zero, List.setIfInBounds_toArray, List.set_cons_succ, List.set_cons_zero]
      refine wpAny_take (i := 2) (v := ?_) rfl (by kernel_rfl) (by kernel_rfl) (by kernel_rfl) (by first | exact fun _ _ _ h => h | (rintro _ _ _ ⟨h, _⟩; cases h)) (Or.inl ⟨by rfl, ?hy2⟩) ?_
      case hy2 => intro w; go_simp; with_reducible rfl
      simp only [Act.put, List.getElem_toArray, List.getElem_cons_zero, List.getElem_cons_succ, List.setIfInBounds_toArray, List.set_cons_succ, List.set_cons_zero]
      refine wpAny_flt 1 6 [3, 4, 5] [7, 8] (.slice Af m cf) (fun w => w.cell? ⟨W1.heap.size, 1, none⟩ = some (.slice Af m cf)) rfl (by kernel_rfl) rfl (fun _ _ _ h => h) m1 (And.intro (by rfl) ?hys) ?_
      case hys => intro w' hw'; have hk' : w'.cell? ⟨W1.heap.size, 1, none⟩ = some (.slice Af m cf) := hw'; go_simp; all_goals exact rfl
      simp only [nths, nth1, Act.put, List.setIfInBounds_toArray, List.set_cons_succ, List.set_cons_zero]
      refine wpSeqC_cons fun K hK => ?_
      go_simp
      refine hK _ _ ?_ ?_
      · show World.cell? (World.alloc _ _) _ = _
        exact (((Ext.refl W2).drew.alloc _).cells _ _ hml).trans m1
      clear hK K
      refine wpSeqC_cons fun K hK => ?_
      go_simp
      refine (one_any w0 br (N + 61) (-1) 8 W2.heap.size 3 3 _ (by omega) (by omega) (by omega) (HR2.out.grow (((Ext.refl W2).alloc _).drew)) (by simp [World.drew]) (by omega) (newL12 W2 3 [-1, 0, 8] (by intro x hx; simp at hx; omega)) (Nat.le_refl _)).mono ?_
      rintro e W5 ⟨z, zz0, zz1, rfl, hR5, hK5⟩
      have hK5 : Keep (fun k => k ≠ br) W2 W5 := ((((Ext.refl W2).alloc _).drew).keep _).trans hK5
      have h5 : W5.cell? ⟨W1.heap.size, 1, none⟩ = some (.slice Af m cf) := (hK5.cell (p := ⟨W1.heap.size, 1, none⟩) hml hmbr).trans m1
      have HJ5 := hide (HJ2.out.keep hR5 hK5)
      have hml5 := HJ5.out.b1
      refine hK _ _ h5 ?_
      clear hK K hR5 hK5
      refine wpSeqC_cons fun K hK => ?_
      go_simp
      refine hK _ _ ?_ ?_
      · show World.cell? (World.alloc _ _) _ = _
        exact (((Ext.refl W5).alloc _).cells _ _ hml5).trans h5
      clear hK K
      refine wpSeqC_nil ?_
      refine wpList_appLNG _ rfl _ _ rfl B (.slice Af m cf) m (-1) 8 z W5.heap.size 1 rfl rfl (HJ5.out.f.ext ((Ext.refl _).alloc _)) (World.cell?_alloc_at _ _ _ _ rfl) (by omega) (by omega) (by simp; omega) ?_
      intro v' W6 hL6 hg6 hn6
      obtain ⟨g6, cap6, rfl, -, -, -⟩ := hL6.form
      have hfb := HJ5.out.fb
      have hfB : ∀ g', (Value.slice Af m cf).ownBlock = some g' → B ≤ g' := by obtain ⟨xs, q1, -⟩ := HJ5.out.f.owns; exact fun g' hg' => (World.ownsRow.lt q1 g' hg').1
      have hk6 : Keep (fun k => k = W1.heap.size ∨ k < B) W5 W6 := (((Ext.refl W5).alloc _).keep _).trans (grown_keep9 hg6 (fun k hk e => by have := hfb k e; have := hfB k e; omega))
      obtain ⟨m0', m1', mz', hml6, hrb6, hR6, hK6⟩ := HJ5.out.under hk6 (.inl rfl) (fun k hk => .inr (by omega))
      have y1' := mz' 1
      obtain ⟨w9, hw9⟩ : ∃ w9, w9 = W6.setCell ⟨W1.heap.size, 1, none⟩ (.slice (some ⟨g6, 0, none⟩) (m + 1) cap6) := ⟨_, rfl⟩
      have hk9 : Keep (fun k => k ≠ W1.heap.size) W6 w9 := by rw [hw9]; exact (Keep.refl _ _).set (p := ⟨W1.heap.size, 1, none⟩) (fun _ hh => hh rfl) _
      have n0 : w9.cell? ⟨W1.heap.size, 0, none⟩ = some (.slice (some ⟨g, 0, none⟩) n cn) := by rw [hw9]; exact (World.cell?_setCell_other _ _ _ _ (by simp)).trans m0'
      have n1 : w9.cell? ⟨W1.heap.size, 1, none⟩ = some (.slice (some ⟨g6, 0, none⟩) (m + 1) cap6) := by rw [hw9]; exact World.cell?_setCell_same' _ _ _ (by rw [m1']; rfl)
      have hml9 := Nat.lt_of_lt_of_le hml6 hk9.size
      have hrb9 := hrb6.keep hk9 (by omega)
      have hT9 := ((HJ5.out.t.keep hk6 (fun k hk => .inr hk.2)).keep hk9 (fun k hk => by omega)).mono (T := fun k => Wb.heap.size ≤ k) (Q := fun l => l ≤ 6) (lo' := -2) (hi' := 5) (fun k hk => hk.1) (fun l hl => by omega) (by omega) (Int.le_refl _)
      have hF9 : LN B w9 (.slice (some ⟨g6, 0, none⟩) (m + 1) cap6) (m + 1) (-1) 8 := LN.keepO (.inr hL6) hk9 (fun g' hg' => by have hg' : some g6 = some g' := hg'; injection hg' with hg'; rcases hn6 g6 rfl with h | h; (have := hfb g6 h; omega); (simp at h; omega))
      have hR9 := hR6.keep hk9 (by omega) (fun k hk => by omega)
      have hK9 := hK6.trans9 hk9 (fun k hk _ => by omega)
      obtain ⟨hrl, u0, u1, r0, r1, z0', z1'⟩ := hrb9.two
      have HT9 := hide hT9
      have HF9 := hide (hF9.base9 (B := Wb.heap.size) (by omega))
      have HR9 := hide (hR9.mono (M := N + 80) (by omega))
      have HK9 := hide hK9
      clear hT9 hF9 hR9 hK9 hk9 hrb9 hL6 hg6 hn6 hfb hfB hk6 hrb6 hR6 hK6 mz'
      go_upto_region 11 with fail
      rw [← hw9]
      clear hw9
      go_wp2_with fail
      refine bodyPost_ret (v := .agg #[.slice (some ⟨g, 0, none⟩) n cn, .slice (some ⟨g6, 0, none⟩) (m + 1) cap6]) (by simp only [results, Try.results18]; go_simp) rfl ?_
      exact XAGot.done (n := n) (m := (m + 1)) (HT9.out) (HF9.out) (HR9.out) (HK9.out) HXB.out HSB.out (by (repeat refine Keep.set ?_ (fun _ hh => hh rfl) _); exact Keep.refl _ _) (by omega) (by omega) (by omega) (by omega) (by omega)
    · have h1b : (z == 1) = false := by simp [h1]
      by_cases h2 : z = 2
      · subst h2
        go_upto_region 8 with fail
        refine wp_region_relKT (Rl := Keep (fun k => k ≠ br)) (n := 10) (ts := [10]) (sp := [RK.q [] (fun _ => .pointer (some ⟨W1.heap.size, 0, none⟩)), RK.q [0] (fun _ => .slice (some ⟨g, 0, none⟩) n cn), RK.q [] (fun _ => .pointer (some ⟨W1.heap.size, 0, none⟩)), RK.q [2] (fun _ => .slice (some ⟨g, 0, none⟩) n cn), RK.q [3] (fun _ => .pointer (some ⟨g, 0, none⟩)), RK.q [4] (fun _ => .slice (some ⟨b, 0, none⟩) 6 cp), RK.q [] (fun _ => .pointer (some ⟨br, 0, none⟩)), RK.p [6] (fun _ v => ∃ z : Int, 0 ≤ z ∧ z ≤ 5 ∧ v = .int .i64 z), RK.p [5, 7] (fun _ v => ∃ k : Nat, k < 6 ∧ v = .slice (some ⟨b, 0, none⟩) k cp), RK.q [1] (fun _ => .pointer (some ⟨g, 0, none⟩))])
          (RdC w0 br (N + 61) 10 W2) (by kernel_rfl) (relOKK (D := [[], [0], [], [2], [3], [4], [], [6], [5, 7], [1]]) rfl (by kernel_rfl) rfl) (by kernel_rfl) (fun m w h => by exact h.le) (fun w => by exact Keep.refl _ _) (RdC.start 10 HR2.out) ?steps ?ends
        case steps =>
          refine ⟨?_, ?_, ?_, ?_, ?_, ?_, ?_, ?_, ?_, ?_, trivial⟩
          · intro m V τ W hC hf ht h0
            have s3 : τ 3 = .pointer (some ⟨W1.heap.size, 0, none⟩) := h0 3 (by kernel_rfl)
            refine Does.val (w' := W) (v := .pointer (some ⟨W1.heap.size, 0, none⟩)) ?_ ⟨(by exact Keep.refl _ _), (by exact hC.le), rfl⟩
            clear h0 ht hf
            go_simp
          · intro m V τ W hC hf ht h0
            have f0 : V 0 = .pointer (some ⟨W1.heap.size, 0, none⟩) := hf 0 (show 0 ∈ [0] by decide)
            have s35 := (ht 0 (show 0 ∈ [0] by decide) 35 rfl).trans f0
            have c1 := (hC.kp.cell (p := ⟨W1.heap.size, 0, none⟩) hml hmbr).trans m0
            refine Does.val (w' := W) (v := .slice (some ⟨g, 0, none⟩) n cn) ?_ ⟨(by exact Keep.refl _ _), (by exact hC.le), rfl⟩
            clear h0 ht hf
            go_simp
          · intro m V τ W hC hf ht h0
            have s3 : τ 3 = .pointer (some ⟨W1.heap.size, 0, none⟩) := h0 3 (by kernel_rfl)
            refine Does.val (w' := W) (v := .pointer (some ⟨W1.heap.size, 0, none⟩)) ?_ ⟨(by exact Keep.refl _ _), (by exact hC.le), rfl⟩
            clear h0 ht hf
            go_simp
          · intro m V τ W hC hf ht h0
            have f2 : V 2 = .pointer (some ⟨W1.heap.size, 0, none⟩) := hf 2 (show 2 ∈ [2] by decide)
            have s37 := (ht 2 (show 2 ∈ [2] by decide) 37 rfl).trans f2
            have c1 := (hC.kp.cell (p := ⟨W1.heap.size, 0, none⟩) hml hmbr).trans m0
            refine Does.val (w' := W) (v := .slice (some ⟨g, 0, none⟩) n cn) ?_ ⟨(by exact Keep.refl _ _), (by exact hC.le), rfl⟩
            clear h0 ht hf
            go_simp
          · intro m V τ W hC hf ht h0
            have f3 : V 3 = .slice (some ⟨g, 0, none⟩) n cn := hf 3 (show 3 ∈ [3] by decide)
            have s38 := (ht 3 (show 3 ∈ [3] by decide) 38 rfl).trans f3
            refine Does.val (w' := W) (v := .pointer (some ⟨g, 0, none⟩)) ?_ ⟨(by exact Keep.refl _ _), (by exact hC.le), rfl⟩
            clear h0 ht hf
            go_simp
          · intro m V τ W hC hf ht h0
            have f4 : V 4 = .pointer (some ⟨g, 0, none⟩) := hf 4 (show 4 ∈ [4] by decide)
            have s39 := (ht 4 (show 4 ∈ [4] by decide) 39 rfl).trans f4
            have c3 := (hC.kp.cell (p := ⟨g, 0, none⟩) hgl hgbr).trans hgc
            refine Does.val (w' := W) (v := .slice (some ⟨b, 0, none⟩) 6 cp) ?_ ⟨(by exact Keep.refl _ _), (by exact hC.le), rfl⟩
            clear h0 ht hf
            go_simp
          · intro m V τ W hC hf ht h0
            have s0 : τ 0 = .pointer (some ⟨br, 0, none⟩) := h0 0 (by kernel_rfl)
            refine Does.val (w' := W) (v := .pointer (some ⟨br, 0, none⟩)) ?_ ⟨(by exact Keep.refl _ _), (by exact hC.le), rfl⟩
            clear h0 ht hf
            go_simp
          · intro m V τ W hC hf ht h0
            have f6 : V 6 = .pointer (some ⟨br, 0, none⟩) := hf 6 (show 6 ∈ [6] by decide)
            have s41 := (ht 6 (show 6 ∈ [6] by decide) 41 rfl).trans f6
            obtain ⟨M, hR, hM, hnext⟩ := hC.step (by omega)
            refine Does.call (w' := W) (f := 37) (args := #[.pointer (some ⟨br, 0, none⟩), .int .i64 6]) (by go_simp; all_goals (first | exact rfl | (apply And.intro <;> exact rfl))) ?_
            refine (pick_any w0 br M 6 W (by omega) (by omega) hM hR).mono ?_
            rintro e wa ⟨z, z0, z1, rfl, hR1, hK1⟩
            exact ⟨_, rfl, hK1, hnext _ hR1 hK1, z, by omega, by omega, rfl⟩
          · intro m V τ W hC hf ht h0
            have f5 : V 5 = .slice (some ⟨b, 0, none⟩) 6 cp := hf 5 (show 5 ∈ [5, 7] by decide)
            have s40 := (ht 5 (show 5 ∈ [5, 7] by decide) 40 rfl).trans f5
            have f7 : ∃ z : Int, 0 ≤ z ∧ z ≤ 5 ∧ V 7 = .int .i64 z := hf 7 (show 7 ∈ [5, 7] by decide)
            have s42 : τ 42 = V 7 := ht 7 (show 7 ∈ [5, 7] by decide) 42 rfl
            obtain ⟨z, z0, z1, hz⟩ := f7
            rw [hz] at s42
            obtain ⟨k, rfl⟩ : ∃ k : Nat, z = k := ⟨z.toNat, by omega⟩
            have hk6 : (k : Int) ≤ cp := by omega
            have hk7 : k ≤ cp := by omega
            have hk8 : k ≤ 6 := by omega
            refine Does.val (w' := W) (v := .slice (some ⟨b, 0, none⟩) k cp) ?_ ⟨Keep.refl _ _, hC.le, k, by omega, rfl⟩
            clear h0 ht hf
            go_simp
          · intro m V τ W hC hf ht h0
            have f1 : V 1 = .slice (some ⟨g, 0, none⟩) n cn := hf 1 (show 1 ∈ [1] by decide)
            have s36 := (ht 1 (show 1 ∈ [1] by decide) 36 rfl).trans f1
            refine Does.val (w' := W) (v := .pointer (some ⟨g, 0, none⟩)) ?_ ⟨(by exact Keep.refl _ _), (by exact hC.le), rfl⟩
            clear h0 ht hf
            go_simp
        case ends =>
          intro V W hC hf
          have e0 : V 0 = .pointer (some ⟨W1.heap.size, 0, none⟩) := hf 0 (by omega)
          have e1 : V 1 = .slice (some ⟨g, 0, none⟩) n cn := hf 1 (by omega)
          have e2 : V 2 = .pointer (some ⟨W1.heap.size, 0, none⟩) := hf 2 (by omega)
          have e3 : V 3 = .slice (some ⟨g, 0, none⟩) n cn := hf 3 (by omega)
          have e4 : V 4 = .pointer (some ⟨g, 0, none⟩) := hf 4 (by omega)
          have e5 : V 5 = .slice (some ⟨b, 0, none⟩) 6 cp := hf 5 (by omega)
          have e6 : V 6 = .pointer (some ⟨br, 0, none⟩) := hf 6 (by omega)
          have e7 : ∃ z : Int, 0 ≤ z ∧ z ≤ 5 ∧ V 7 = .int .i64 z := hf 7 (by omega)
          have e8 : ∃ k : Nat, k < 6 ∧ V 8 = .slice (some ⟨b, 0, none⟩) k cp := hf 8 (by omega)
          have e9 : V 9 = .pointer (some ⟨g, 0, none⟩) := hf 9 (by omega)
          clear hf
          obtain ⟨hRf, hKf⟩ := hC.fin
          obtain ⟨z7, -, -, e7⟩ := e7
          obtain ⟨k, k6, e8⟩ := e8
          simp only [List.take_succ_cons, List.take_zero, putAll, Act.put, List.setIfInBounds_toArray, List.set_cons_succ, List.set_cons_zero, Nat.reduceAdd, e0, e1, e2, e3, e4, e5, e6, e7, e8, e9]
          try simp only [nths, nth1]
          clear e0 e1 e2 e3 e4 e5 e6 e7 e8 e9
          have hrw := hKf.row hbbr HRW.out
          have hgc8 := (hKf.cell (p := ⟨g, 0, none⟩) hgl hgbr).trans hgc
          have hgz8 := (hKf.frz (p := ⟨g, 0, none⟩) hgl hgbr).trans hgz
          have HJ8 := hide (HJ2.out.keep hRf hKf)
          obtain ⟨w9, hw9⟩ : ∃ w9, w9 = W.setCell ⟨g, 0, none⟩ (.slice (some ⟨b, 0, none⟩) k cp) := ⟨_, rfl⟩
          have hk9 : Keep (fun k => k ≠ g) W w9 := by rw [hw9]; exact (Keep.refl _ _).set (p := ⟨g, 0, none⟩) (fun _ hh => hh rfl) _
          obtain ⟨m0, m1, -, hml9, hrb9, hR9, hK9⟩ := HJ8.out.under hk9 hgm (fun k hk => by omega)
          have hT9 : LTab (fun k => Wb.heap.size ≤ k) (fun l => l ≤ 6) w9 (.slice (some ⟨g, 0, none⟩) n cn) n (-2) 5 := by rw [hw9]; exact (HJ8.out.t.mono (fun k hk => hk.1) (fun l hl => by omega) (by omega) (Int.le_refl _)).setr (by omega) rfl ⟨b, k, cp, m', f, rfl, by omega, by omega, by omega, by omega, hrw, fun t ht => by obtain ⟨x, q1, q2, q3⟩ := HFW.out t (by omega); exact ⟨x, q1, by omega, q3⟩⟩
          have hF9 := HJ8.out.f.keep hk9 (fun k hk => by omega)
          obtain ⟨hrl, u0, u1, r0, r1, z0', z1'⟩ := hrb9.two
          have HT9 := hide hT9
          have HF9 := hide (hF9.base9 (B := Wb.heap.size) (by omega))
          have HR9 := hide (hR9.mono (M := N + 80) (by omega))
          have HK9 := hide hK9
          clear hrw hRf hKf hT9 hF9 hR9 hK9 hk9 hC hrb9
          go_upto_region 11 with fail
          rw [← hw9]
          clear hw9
          go_wp2_with fail
          refine bodyPost_ret (v := .agg #[.slice (some ⟨g, 0, none⟩) n cn, .slice Af m cf]) (by simp only [results, Try.results18]; go_simp) rfl ?_
          exact XAGot.done (n := n) (m := m) (HT9.out) (HF9.out) (HR9.out) (HK9.out) HXB.out HSB.out (by (repeat refine Keep.set ?_ (fun _ hh => hh rfl) _); exact Keep.refl _ _) (by omega) (by omega) (by omega) (by omega) (by omega)
      · have h2b : (z == 2) = false := by simp [h2]
        by_cases h3 : z = 3
        · subst h3
          obtain ⟨rs, hrl, hSr, hrb⟩ := HJ2.out.t.rows (fun l hl => by omega) (by omega) (by omega) (by omega)
          have hrp : ∀ i, i < rs.length → 0 < (rw0 rs i).length := fun i hi => by have := (hrb i (by omega)).1; omega
          have HSR := hide hSr
          have HXD := hide ((Ext.refl W2).drew)
          clear hSr
          go_upto_region 10 with fail
          refine wp_region_any (by kernel_rfl) ?_
          change wpAny _ _ _ _ _ _ _ (World.drew _)
          refine wpAny_take (i := 0) (v := ?_) rfl (by kernel_rfl) (by kernel_rfl) (by kernel_rfl) (by first | exact fun _ _ _ h => h | (rintro _ _ _ ⟨h, _⟩; cases h)) (Or.inl ⟨by rfl, ?hy0⟩) ?_
          case hy0 => intro w; go_simp; with_reducible rfl
          simp only [Act.put, List.getElem_toArray, List.getElem_cons_zero, List.setIfInBounds_toArray, List.set_cons_succ, List.set_cons_zero]
          refine wpAny_take (i := 2) (v := ?_) rfl (by kernel_rfl) (by kernel_rfl) (by kernel_rfl) (by first | exact fun _ _ _ h => h | (rintro _ _ _ ⟨h, _⟩; cases h)) (Or.inl ⟨by rfl, ?hy2⟩) ?_
          case hy2 => intro w; go_simp; with_reducible rfl
          simp only [Act.put, List.getElem_toArray, List.getElem_cons_zero, List.getElem_cons_succ, List.setIfInBounds_toArray, List.set_cons_succ, List.set_cons_zero]
          refine wpAny_take (i := 5) (v := ?_) rfl (by kernel_rfl) (by kernel_rfl) (by kernel_rfl) (by first | exact fun _ _ _ h => h | (rintro _ _ _ ⟨h, _⟩; cases h)) (Or.inl ⟨by rfl, ?hy5⟩) ?_
          case hy5 => intro w; go_simp; with_reducible rfl
          simp only [Act.put, List.getElem_toArray, List.getElem_cons_zero, List.getElem_cons_succ, List.setIfInBounds_toArray, List.set_cons_succ, List.set_cons_zero]
          refine wpAny_take (i := 8) (v := ?_) rfl (by kernel_rfl) (by kernel_rfl) (by kernel_rfl) (by first | exact fun _ _ _ h => h | (rintro _ _ _ ⟨h, _⟩; cases h)) (Or.inl ⟨by rfl, ?hy8⟩) ?_
          case hy8 => intro w; go_simp; with_reducible rfl
          simp only [Act.put, List.getElem_toArray, List.getElem_cons_zero, List.getElem_cons_succ, List.setIfInBounds_toArray, List.set_cons_succ, List.set_cons_zero]
          refine wpAny_ofK (C := fun w => w.cell? ⟨W1.heap.size, 0, none⟩ = some (.slice (some ⟨g, 0, none⟩) n cn)) (n := 14) _ _ _ _ ?_
          refine wpAnyK_take 1 (.slice (some ⟨g, 0, none⟩) n cn) rfl (by kernel_rfl) (fun _ _ _ h => h) m0 (And.intro (by rfl) ?hy1) ?_
          case hy1 => intro w' hw'; have hk1 : w'.cell? ⟨W1.heap.size, 0, none⟩ = some (.slice (some ⟨g, 0, none⟩) n cn) := hw'; go_simp; all_goals exact rfl
          simp only [Act.put, List.setIfInBounds_toArray, List.set_cons_succ, List.set_cons_zero]
          refine wpAnyK_take 3 (.slice (some ⟨g, 0, none⟩) n cn) rfl (by kernel_rfl) (fun _ _ _ h => h) m0 (And.intro (by rfl) ?hy3) ?_
          case hy3 => intro w' hw'; have hk1 : w'.cell? ⟨W1.heap.size, 0, none⟩ = some (.slice (some ⟨g, 0, none⟩) n cn) := hw'; go_simp; all_goals exact rfl
          simp only [Act.put, List.setIfInBounds_toArray, List.set_cons_succ, List.set_cons_zero]
          refine wpAnyK_take 6 (.slice (some ⟨g, 0, none⟩) n cn) rfl (by kernel_rfl) (fun _ _ _ h => h) m0 (And.intro (by rfl) ?hy6) ?_
          case hy6 => intro w' hw'; have hk1 : w'.cell? ⟨W1.heap.size, 0, none⟩ = some (.slice (some ⟨g, 0, none⟩) n cn) := hw'; go_simp; all_goals exact rfl
          simp only [Act.put, List.setIfInBounds_toArray, List.set_cons_succ, List.set_cons_zero]
          refine wpAnyK_take 9 (.slice (some ⟨g, 0, none⟩) n cn) rfl (by kernel_rfl) (fun _ _ _ h => h) m0 (And.intro (by rfl) ?hy9) ?_
          case hy9 => intro w' hw'; have hk1 : w'.cell? ⟨W1.heap.size, 0, none⟩ = some (.slice (some ⟨g, 0, none⟩) n cn) := hw'; go_simp; all_goals exact rfl
          simp only [Act.put, List.setIfInBounds_toArray, List.set_cons_succ, List.set_cons_zero]
          refine wpAnyK_one (i := 4) (by kernel_rfl) rfl (by omega) (fun K hK => ?_)
          go_simp
          refine (copyRows_any _ rs _ (HSR.out.ext HXD.out) (by omega) hrp).mono ?_
          rintro e W4 ⟨v4, rfl, hA, hx⟩
          have hA := hA.ltabP (P := fun l => l = 6) (lo := -1) (hi := 5) (fun i hi => hrb i (by omega))
          rw [hrl] at hA
          obtain ⟨A4, c4, hv4, -⟩ := hA.form
          subst hv4
          have HX4 := hide (HXD.out.trans hx)
          have HL4 := hide hA
          have hx4 := hx
          have hs4 := hx.size
          refine hK _ _ ((HX4.out.cells _ _ hml).trans m0) ?_
          clear hK K hA hx
          refine wpAnyK_one (i := 7) (by kernel_rfl) rfl (by omega) (fun K hK => ?_)
          go_simp
          refine (copyRows_any _ rs _ (HSR.out.ext HX4.out) (by omega) hrp).mono ?_
          rintro e W7 ⟨v7, rfl, hA, hx⟩
          have hA := hA.ltabP (P := fun l => l = 6) (lo := -1) (hi := 5) (fun i hi => hrb i (by omega))
          rw [hrl] at hA
          obtain ⟨A7, c7, hv7, -⟩ := hA.form
          subst hv7
          have HX7 := hide (HX4.out.trans hx)
          have HL7 := hide hA
          have hx7 := hx
          have hs7 := hx.size
          refine hK _ _ ((HX7.out.cells _ _ hml).trans m0) ?_
          clear hK K hA hx
          refine wpAnyK_one (i := 10) (by kernel_rfl) rfl (by omega) (fun K hK => ?_)
          go_simp
          refine (copyRows_any _ rs _ (HSR.out.ext HX7.out) (by omega) hrp).mono ?_
          rintro e W10 ⟨v10, rfl, hA, hx⟩
          have hA := hA.ltabP (P := fun l => l = 6) (lo := -1) (hi := 5) (fun i hi => hrb i (by omega))
          rw [hrl] at hA
          obtain ⟨A10, c10, hv10, -⟩ := hA.form
          subst hv10
          have HX10 := hide (HX7.out.trans hx)
          have HL10 := hide hA
          have hx10 := hx
          have hs10 := hx.size
          refine hK _ _ ((HX10.out.cells _ _ hml).trans m0) ?_
          clear hK K hA hx
          have hs24 : W2.heap.size ≤ W4.heap.size := HX4.out.size
          refine wpAnyK_one (i := 11) (by kernel_rfl) rfl (by omega) (fun K hK => ?_)
          refine step_appLT _ rfl _ _ rfl (fun k => W4.heap.size ≤ k) (fun l => l = 6) (.slice A7 n c7) (.slice A10 n c10) n n (-1) 5 rfl rfl (HL7.out.ext hx10) (HL10.out.mono (fun k hk => by omega) (fun _ h => h) (Int.le_refl _) (Int.le_refl _)) (by omega) (by omega) (fun k hk => by omega) ?_
          intro v11 W11 hL11 hg11
          obtain ⟨A11, c11, hv11, -⟩ := hL11.form
          subst hv11
          have hk11 : Keep (fun k => k < W4.heap.size) W10 W11 := grown_keep9 hg11 (fun k hk e => by obtain ⟨cells, -, q2, -⟩ := HL7.out; have := q2 k e; omega)
          have hk4 : Keep (fun k => k < W4.heap.size) W4 W11 := ((hx7.trans hx10).keep _).trans hk11
          have hk2 : Keep (fun k => k < W2.heap.size) W2 W11 := (HX4.out.keep _).trans9 hk4 (fun k hk _ => by omega)
          have HL4' := hide (HL4.out.lt.keep hk4 (fun k hk => hk.2))
          have hs11 := hk4.size
          have hk2s := hk2.size
          refine hK _ _ ((hk2.cell (p := ⟨W1.heap.size, 0, none⟩) hml hml).trans m0) ?_
          clear hK K hg11 hk11 hk4
          simp only [Act.put, List.setIfInBounds_toArray]
          refine wpAnyK_one (i := 12) (by kernel_rfl) rfl (by omega) (fun K hK => ?_)
          refine step_appLT _ rfl _ _ rfl (fun k => W2.heap.size ≤ k) (fun l => l = 6) (.slice A4 n c4) (.slice A11 (n + n) c11) n (n + n) (-1) 5 rfl rfl (HL4'.out.mono (fun k hk => hk.1) (fun _ h => h) (Int.le_refl _) (Int.le_refl _)) (hL11.mono (fun k hk => by omega) (fun _ h => h) (Int.le_refl _) (Int.le_refl _)) (by omega) (by omega) (fun k hk => by omega) ?_
          intro v12 W12 hL12 hg12
          obtain ⟨A12, c12, hv12, -⟩ := hL12.form
          subst hv12
          have hk12 : Keep (fun k => k < W2.heap.size) W11 W12 := grown_keep9 hg12 (fun k hk e => by obtain ⟨cells, -, q2, -⟩ := HL4.out; have hq : W2.heap.size ≤ k := q2 k e; omega)
          have hk2 := hk2.trans hk12
          have hs12 := hk2.size
          refine hK _ _ ((hk2.cell (p := ⟨W1.heap.size, 0, none⟩) hml hml).trans m0) ?_
          clear hK K hg12 hk12 hL11
          simp only [Act.put]
          refine wpAnyK_one (i := 13) (by kernel_rfl) rfl (by omega) (fun K hK => ?_)
          refine step_appLT _ rfl _ _ rfl (fun k => Wb.heap.size ≤ k ∧ k ≠ W1.heap.size) (fun l => l = 6) (.slice (some ⟨g, 0, none⟩) n cn) (.slice A12 (n + (n + n)) c12) n (n + (n + n)) (-1) 5 rfl rfl ((HJ2.out.t.keep hk2 (fun k hk => by omega)).mono (fun k hk => ⟨hk.1, by omega⟩) (fun _ h => h) (Int.le_refl _) (Int.le_refl _)) (hL12.mono (fun k hk => ⟨by omega, by omega⟩) (fun _ h => h) (Int.le_refl _) (Int.le_refl _)) (by omega) (by omega) (fun k hk => ⟨by omega, by omega⟩) ?_
          intro v13 W13 hL13 hg13
          obtain ⟨A13, c13, hv13, -⟩ := hL13.form
          subst hv13
          have hk13 : Keep (fun k => k < W2.heap.size ∧ k ≠ g) W2 W13 := (hk2.mono (fun k _ hk => hk.1)).trans (grown_keep9 hg13 (fun k hk e => by have e : some g = some k := e; injection e with e; exact hk.2 e.symm))
          obtain ⟨m0', m1', mz', hml6, hrb6, hR6, hK6⟩ := HJ2.out.under hk13 ⟨hml, hgm⟩ (fun k hk => ⟨by omega, by omega⟩)
          refine hK _ _ m0' ?_
          clear hK K hg13 hL12
          simp only [Act.put]
          refine wpAnyK_fin 14 [15] (by omega) (by kernel_rfl) ?_
          simp only [nths, nth1]
          have y0' := mz' 0
          obtain ⟨w9, hw9⟩ : ∃ w9, w9 = W13.setCell ⟨W1.heap.size, 0, none⟩ (.slice A13 (n + (n + (n + n))) c13) := ⟨_, rfl⟩
          have hk9 : Keep (fun k => k ≠ W1.heap.size) W13 w9 := by rw [hw9]; exact (Keep.refl _ _).set (p := ⟨W1.heap.size, 0, none⟩) (fun _ hh => hh rfl) _
          have n1 : w9.cell? ⟨W1.heap.size, 1, none⟩ = some (.slice Af m cf) := by rw [hw9]; exact (World.cell?_setCell_other _ _ _ _ (by simp)).trans m1'
          have n0 : w9.cell? ⟨W1.heap.size, 0, none⟩ = some (.slice A13 (n + (n + (n + n))) c13) := by rw [hw9]; exact World.cell?_setCell_same' _ _ _ (by rw [m0']; rfl)
          have hml9 := Nat.lt_of_lt_of_le hml6 hk9.size
          have hrb9 := hrb6.keep hk9 (by omega)
          have hT9 : LTab (fun k => Wb.heap.size ≤ k) (fun l => l ≤ 6) w9 (.slice A13 (n + (n + (n + n))) c13) (n + (n + (n + n))) (-2) 5 := (hL13.keep hk9 (fun k hk => hk.2)).mono (fun k hk => hk.1) (fun l hl => by omega) (by omega) (Int.le_refl _)
          have hF9 := (HJ2.out.f.keepO hk13 (fun g' hg' => ⟨by have := HJ2.out.fb g' hg'; omega, by obtain ⟨xs, q1, -⟩ := HJ2.out.f.owns; have := (World.ownsRow.lt q1 g' hg').1; omega⟩)).keepO hk9 (fun g' hg' => by have := HJ2.out.fb g' hg'; omega)
          have hR9 := hR6.keep hk9 (by omega) (fun k hk => by omega)
          have hK9 := hK6.trans9 hk9 (fun k hk _ => by omega)
          obtain ⟨hrl, u0, u1, r0, r1, z0', z1'⟩ := hrb9.two
          have HT9 := hide hT9
          have HF9 := hide (hF9.base9 (B := Wb.heap.size) (by omega))
          have HR9 := hide (hR9.mono (M := N + 80) (by omega))
          have HK9 := hide hK9
          clear hT9 hF9 hR9 hK9 hk9 hrb9 hk13 hk2 hrb6 hR6 hK6 mz' hL13
          go_upto_region 11 with fail
          rw [← hw9]
          clear hw9
          go_wp2_with fail
          refine bodyPost_ret (v := .agg #[.slice A13 (n + (n + (n + n))) c13, .slice Af m cf]) (by simp only [results, Try.results18]; go_simp) rfl ?_
          exact XAGot.done (n := (n + (n + (n + n)))) (m := m) (HT9.out) (HF9.out) (HR9.out) (HK9.out) HXB.out HSB.out (by (repeat refine Keep.set ?_ (fun _ hh => hh rfl) _); exact Keep.refl _ _) (by omega) (by omega) (by omega) (by omega) (by omega)
        · have h3b : (z == 3) = false := by simp [h3]
          obtain ⟨hrl, u0, u1, r0, r1, z0', z1'⟩ := HJ2.out.r.two
          go_wp2_with fail
          refine bodyPost_ret (v := .agg #[.slice (some ⟨g, 0, none⟩) n cn, .slice Af m cf]) (by simp only [results, Try.results18]; go_simp) rfl ?_
          exact XAGot.done (n := n) (m := m) (HJ2.out.t.mono (fun k hk => hk.1) (fun l hl => by omega) (by omega) (Int.le_refl _)) (HJ2.out.f.base9 (by omega)) (HJ2.out.rd.mono (by omega)) (HJ2.out.kp) HXB.out HSB.out (by (repeat refine Keep.set ?_ (fun _ hh => hh rfl) _); exact Keep.refl _ _) (by omega) (by omega) (by omega) (by omega) (by omega)
end Go.Proofs.Ytachgijdopfghaa
