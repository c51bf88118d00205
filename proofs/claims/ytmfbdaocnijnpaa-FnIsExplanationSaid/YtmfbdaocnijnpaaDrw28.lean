/- Draws of the generator: reasons for a removal. -/
import Derived.Test.YtmfbdaocnijnpaaDrw27
import Derived.Test.YtmfbdaocnijnpaaExpB
namespace Go.Proofs.Ytmfbdaocnijnpaa
open Go.RowKit
attribute [local go_sem] evalOf

/-- A list of removals in a block from B on; room behind it may be written. -/
def OffRm (B : Nat) (W : World) (lv : Value) (ls : List Rm) : Prop :=
  ∃ A c, lv = .slice A ls.length c ∧ ls.length ≤ c ∧ c ≤ 9223372036854775807 ∧ ((A = none ∧ ls = [] ∧ c = 0) ∨ ∃ g off, A = some ⟨g, off, none⟩ ∧ B ≤ g ∧ g < W.heap.size ∧ (∀ j u, (layRm.flat ls)[j]? = some u → W.cell? ⟨g, off + j, none⟩ = some u) ∧
    ∀ j, j < c * 2 → (W.cell? ⟨g, off + j, none⟩).isSome = true ∧ W.frozen? ⟨g, off + j, none⟩ = false)
theorem OffRm.of_app {B : Nat} {W : World} {v : Value} {ls : List Rm} (h : layRm.App B W v ls) : OffRm B W v ls := by
  obtain ⟨A, c, hv, hlc, hcm⟩ := LayApp.form h
  refine ⟨A, c, hv, hlc, hcm, ?_⟩
  rcases h.2 with ⟨e1, e2⟩ | ⟨g, cap, cur, e1, hb, hh, hnc, hm, hcs, htk⟩
  · rw [hv] at e1
    injection e1 with e1 _ e3
    exact .inl ⟨e1, List.length_eq_zero_iff.1 e2, e3⟩
  · rw [hv] at e1
    injection e1 with e1 _ e3
    subst e3
    refine .inr ⟨g, 0, e1, hb, (Array.getElem?_eq_some_iff.1 hh).1, fun j u hj => ?_, fun j hj => ?_⟩
    · have e2 : (cur.toList.take (ls.length * layRm.size))[j]? = some u := by rw [htk]; exact hj
      have hjl : j < ls.length * layRm.size := by rw [← layRmOk.flen]; exact (List.getElem?_eq_some_iff.1 hj).1
      rw [List.getElem?_take, if_pos hjl, Array.getElem?_toList] at e2
      rw [Nat.zero_add]
      simp [World.cell?, hh, e2]
    · have hjs : j < cur.size := by rw [hcs]; exact hj
      rw [Nat.zero_add]
      exact ⟨by simp [World.cell?, hh, hjs], by simp [World.frozen?, hh]⟩
theorem OffRm.keep {B : Nat} {W W' : World} {lv : Value} {ls : List Rm} {S : Nat → Prop} (h : OffRm B W lv ls) (hk : Keep S W W') (hS : ∀ k, B ≤ k → S k) : OffRm B W' lv ls := by
  obtain ⟨A, c, h1, h2, h3, h4⟩ := h
  refine ⟨A, c, h1, h2, h3, h4.imp id ?_⟩
  rintro ⟨g, off, q1, q2, q3, q4, q5⟩
  exact ⟨g, off, q1, q2, Nat.lt_of_lt_of_le q3 hk.size, fun j u hj => (hk.cell (p := ⟨g, _, none⟩) q3 (hS g q2)).trans (q4 j u hj), fun j hj => ⟨by rw [hk.cell (p := ⟨g, _, none⟩) q3 (hS g q2)]; exact (q5 j hj).1, (hk.frz (p := ⟨g, _, none⟩) q3 (hS g q2)).trans (q5 j hj).2⟩⟩
/-- A list of removals in a block from B on, at the end. -/
def FinRm (B : Nat) (W : World) (lv : Value) (ls : List Rm) : Prop :=
  layRm.S W lv ls ∧ (∀ g, lv.ownBlock = some g → B ≤ g ∧ g < W.heap.size) ∧ ∀ n c, lv = .slice none n c → c = 0
theorem OffRm.fin {B : Nat} {W : World} {lv : Value} {ls : List Rm} (h : OffRm B W lv ls) (hl : ls.length ≤ 1000) : FinRm B W lv ls := by
  obtain ⟨A, c, rfl, h2, h3, h4⟩ := h
  rcases h4 with ⟨rfl, rfl, rfl⟩ | ⟨g, off, rfl, q2, q3, q4, -⟩
  · exact ⟨⟨none, 0, rfl, Nat.le_refl _, by show 0 * 16 ≤ _; omega, fun hp => absurd hp (by simp)⟩, (fun g hg => by cases hg), fun n c e => by injection e with _ _ e; exact e.symm⟩
  · exact ⟨⟨_, c, rfl, h2, by show _ * 16 ≤ _; omega, fun _ => ⟨g, off, rfl, q3, q4⟩⟩, (fun g' hg => by have hg : some g = some g' := hg; injection hg with hg; omega), fun n c e => by injection e with e; cases e⟩
theorem FinRm.keep {B : Nat} {W W' : World} {lv : Value} {ls : List Rm} {S : Nat → Prop} (h : FinRm B W lv ls) (hk : Keep S W W') (hS : ∀ k, B ≤ k → S k) : FinRm B W' lv ls := by
  obtain ⟨⟨A, c, h1, h2, h3, h5⟩, h6, h7⟩ := h
  refine ⟨⟨A, c, h1, h2, h3, fun hp => ?_⟩, fun g hg => ⟨(h6 g hg).1, Nat.lt_of_lt_of_le (h6 g hg).2 hk.size⟩, h7⟩
  obtain ⟨b, off, e, hb, hc⟩ := h5 hp
  have hbB := (h6 b (by rw [h1, e]; rfl)).1
  exact ⟨b, off, e, Nat.lt_of_lt_of_le hb hk.size, fun j u hj => (hk.cell (p := ⟨b, _, none⟩) hb (hS b hbB)).trans (hc j u hj)⟩
/-- Without the first. -/
theorem OffRm.drop1 {B : Nat} {W : World} {A : Option Addr} {n c : Nat} {ls : List Rm} (h : OffRm B W (.slice A n c) ls) (hp : 0 < ls.length) :
    ∃ g off, A = some ⟨g, off, none⟩ ∧ n = ls.length ∧ n ≤ c ∧ OffRm B W (.slice (if c = 1 then some ⟨g, off, none⟩ else some ⟨g, off + 2, none⟩) (n - 1) (c - 1)) (ls.drop 1) := by
  obtain ⟨A', c', e, h2, h3, h4⟩ := h
  injection e with e1 e2 e3
  subst e1 e2 e3
  rcases h4 with ⟨-, rfl, -⟩ | ⟨g, off, rfl, q2, q3, q4, q5⟩
  · simp at hp
  · refine ⟨g, off, rfl, rfl, h2, ?_⟩
    have hdl : (ls.drop 1).length = ls.length - 1 := by simp
    refine ⟨_, c - 1, by rw [hdl], by rw [hdl]; omega, by omega, .inr ?_⟩
    by_cases hc : c = 1
    · have hd0 : ls.drop 1 = [] := by apply List.eq_nil_of_length_eq_zero; omega
      rw [if_pos hc, hd0]
      exact ⟨g, off, rfl, q2, q3, fun j u hj => by simp [Lay.flat] at hj, fun j hj => by omega⟩
    · rw [if_neg hc]
      refine ⟨g, off + 2, rfl, q2, q3, fun j u hj => ?_, fun j hj => ?_⟩
      · rw [layRmOk.flat_drop, if_pos (by omega)] at hj
        rw [Nat.add_assoc]
        exact q4 _ _ hj
      · rw [Nat.add_assoc]
        exact q5 _ (by omega)
theorem cell_setCells2 (w : World) (g o : Nat) (u v : Value) : w.setCells g o [u, v] = (w.setCell ⟨g, o, none⟩ u).setCell ⟨g, o + 1, none⟩ v := rfl
set_option maxRecDepth 100000 in
/-- append of one removal. -/
theorem wpList_appOff (w : World) {ops : Array Oper} {rest : List Oper} {o : Oper} {a : Act} {Q : Exit → Act → World → Prop} (hgd : o.guard = none) (s x : Operand)
    (ho : o.op = .call { callee := .builtin .append, args := #[s, x], argTypes := #[27, 27] })
    (B : Nat) (lv : Value) (ls : List Rm) (r : Rm) (b c : Nat) (hs : a.eval s = lv) (hx : a.eval x = .slice (some ⟨b, 0, none⟩) 1 c) (hB : B ≤ w.heap.size) (h : OffRm B w lv ls) (hl : ls.length ≤ 100)
    (h0 : w.cell? ⟨b, 0, none⟩ = some (.int .i64 r.x)) (h1 : w.cell? ⟨b, 1, none⟩ = some (.int .i64 r.v))
    (hk : ∀ v' w', FinRm B w' v' (ls ++ [r]) → Keep (fun k => k < B) w w' → wpList Try.prog ops Q rest (a.put o.dst v') w') : wpList Try.prog ops Q (o :: rest) a w := by
  obtain ⟨i, hi, hz, hsz, hby⟩ := layRmOk.info
  obtain ⟨A, cap, rfl, h2, h3, h4⟩ := h
  have hnews : ∀ (j : Nat) (u : Value), (layRm.enc r)[j]? = some u → w.cell? ((⟨b, 0, none⟩ : Addr).add j) = some u := by
    intro j u hj
    rw [Addr.add_lit, Nat.zero_add]
    match j with
    | 0 =>
      have e : some (Value.int .i64 r.x) = some u := hj
      injection e with e
      rw [← e]; exact h0
    | 1 =>
      have e : some (Value.int .i64 r.v) = some u := hj
      injection e with e
      rw [← e]; exact h1
  have hll : (ls ++ [r]).length = ls.length + 1 := by simp
  have hfl : layRm.flat (ls ++ [r]) = layRm.flat ls ++ layRm.enc r := by rw [Lay.flat_append]; simp [Lay.flat]
  have hgrown : ∀ v' w', w'.ownsRow w.heap.size layRm.e layRm.size v' (ls.length + 1) (layRm.flat ls ++ layRm.enc r) → w.grownBy w' none → FinRm B w' v' (ls ++ [r]) ∧ Keep (fun k => k < B) w w' := fun v' w' hr hg => by
    have hA : layRm.App w.heap.size w' v' (ls ++ [r]) := by
      show w'.ownsRow _ _ _ _ _ _
      rw [hll, hfl]; exact hr
    exact ⟨(OffRm.of_app (LayApp.mono hA hB)).fin (by rw [hll]; omega), (Keep.of_grown hg).mono (fun k _ _ e => by cases e)⟩
  rcases h4 with ⟨rfl, rfl, rfl⟩ | ⟨g, off, rfl, q2, q3, q4, q5⟩
  · refine wpList_append_grows w hgd s x _ ho layRm.e i _ layRm.size layRm.bytes layRmOk.und hi hz hsz hby layRmOk.zs layRmOk.pos none 0 0 [] hs (fun _ => ⟨rfl, rfl⟩) (by simp) (fun b hb => by cases hb) ⟨b, 0, none⟩ 1 c (layRm.enc r) hx (by rw [layRmOk.len, Nat.one_mul]) hnews (layRmOk.one r) (by omega) (by unfold maxLen; omega) (by show (0 + 1) * 16 ≤ _; omega) ?_
    intro v' w' hr hg
    obtain ⟨f1, f2⟩ := hgrown v' w' hr hg
    exact hk v' w' f1 f2
  · have hsz2 : layRm.size = 2 := rfl
    refine wpList_append_arg w hgd s x _ ho layRm.e i _ layRm.size layRm.bytes layRmOk.und hi hz hsz hby layRmOk.zs layRmOk.pos g off ls.length cap (layRm.flat ls) hs (layRmOk.flen ls) q4 ⟨b, 0, none⟩ 1 c (layRm.enc r) hx (by rw [layRmOk.len, Nat.one_mul]) hnews (layRmOk.one r) ?_ (by unfold maxLen; omega) (by show (ls.length + 1) * 16 ≤ _; omega) ?_ ?_
    · intro hr j hj
      have hj : j < 2 := hj
      rw [hsz2, Nat.add_assoc]
      exact q5 _ (by omega)
    · intro hr
      rw [hsz2]
      have hw' : w.setCells g (off + ls.length * 2) (layRm.enc r) = (w.setCell ⟨g, off + ls.length * 2, none⟩ (.int .i64 r.x)).setCell ⟨g, off + ls.length * 2 + 1, none⟩ (.int .i64 r.v) := rfl
      rw [hw']
      have hkg : Keep (fun k => k ≠ g) w ((w.setCell ⟨g, off + ls.length * 2, none⟩ (.int .i64 r.x)).setCell ⟨g, off + ls.length * 2 + 1, none⟩ (.int .i64 r.v)) := ((Keep.refl _ _).set (p := ⟨g, off + ls.length * 2, none⟩) (fun _ hh => hh rfl) _).set (p := ⟨g, off + ls.length * 2 + 1, none⟩) (fun _ hh => hh rfl) _
      have c0 := (q5 (ls.length * 2) (by omega)).1
      have c1 := (q5 (ls.length * 2 + 1) (by omega)).1
      rw [← Nat.add_assoc] at c1
      have g0 : ((w.setCell ⟨g, off + ls.length * 2, none⟩ (.int .i64 r.x)).setCell ⟨g, off + ls.length * 2 + 1, none⟩ (.int .i64 r.v)).cell? ⟨g, off + ls.length * 2, none⟩ = some (.int .i64 r.x) :=
        (World.cell?_setCell_other _ _ _ _ (by intro e; injection e with _ e; omega)).trans (World.cell?_setCell_same' _ _ _ c0)
      have g1 : ((w.setCell ⟨g, off + ls.length * 2, none⟩ (.int .i64 r.x)).setCell ⟨g, off + ls.length * 2 + 1, none⟩ (.int .i64 r.v)).cell? ⟨g, off + ls.length * 2 + 1, none⟩ = some (.int .i64 r.v) :=
        World.cell?_setCell_same' _ _ _ (by rw [World.cell?_setCell_other _ _ _ _ (by intro e; injection e with _ e; omega)]; exact c1)
      refine hk _ _ ⟨⟨_, cap, by rw [hll], by rw [hll]; exact hr, by rw [hll]; show (ls.length + 1) * 16 ≤ _; omega, fun _ => ⟨g, off, rfl, Nat.lt_of_lt_of_le q3 hkg.size, fun j u hj => ?_⟩⟩, (fun g' hg' => by have hg' : some g = some g' := hg'; injection hg' with hg'; have := hkg.size; omega), fun n c e => by injection e with e; cases e⟩ (hkg.mono (fun k _ hk => by omega))
      rw [hfl] at hj
      have hfn := layRmOk.flen ls
      rw [hsz2] at hfn
      by_cases hjl : j < ls.length * 2
      · rw [List.getElem?_append_left (by omega)] at hj
        rw [World.cell?_setCell_other _ _ _ _ (by intro e; injection e with _ e; omega), World.cell?_setCell_other _ _ _ _ (by intro e; injection e with _ e; omega)]
        exact q4 j u hj
      · rw [List.getElem?_append_right (by omega), hfn] at hj
        have hj2 : j - ls.length * 2 < 2 := by have := (List.getElem?_eq_some_iff.1 hj).1; rw [layRmOk.len] at this; exact this
        obtain hjj | hjj : j = ls.length * 2 ∨ j = ls.length * 2 + 1 := by omega
        · subst hjj
          rw [Nat.sub_self] at hj
          have e : some (Value.int .i64 r.x) = some u := hj
          rw [← e]; exact g0
        · subst hjj
          rw [show ls.length * 2 + 1 - ls.length * 2 = 1 by omega] at hj
          have e : some (Value.int .i64 r.v) = some u := hj
          rw [← e, ← Nat.add_assoc]; exact g1
    · intro hr v' w' hr hg
      obtain ⟨f1, f2⟩ := hgrown v' w' hr hg
      exact hk v' w' f1 f2
theorem RdSt.setp {w0 : World} {br N : Nat} {W : World} (h : RdSt w0 br N W) : RdSt w0 br 40 (W.setCell ⟨br, 1, none⟩ (.int .i64 40)) := by
  obtain ⟨v, n, h1, h2, h3⟩ := h.b0
  obtain ⟨p, -, -, p3⟩ := h.p0
  have hk : Keep (fun k => k ≠ br) W (W.setCell ⟨br, 1, none⟩ (.int .i64 40)) := (Keep.refl _ _).set (p := ⟨br, 1, none⟩) (fun _ hh => hh rfl) _
  exact ⟨⟨v, n, (World.cell?_setCell_other _ _ _ _ (by simp)).trans h1, h2, h3⟩, ⟨40, by omega, by omega, World.cell?_setCell_same' _ _ _ (by rw [p3]; rfl)⟩, (World.frozen?_setCell ..).trans h.z1, Nat.lt_of_lt_of_le h.lt hk.size, h.ge, Below.trans h.ext (hk.below h.ext.size (fun k hk => by have := h.ge; omega))⟩
/-- A constraint, the number of variables, reasons and a removal came. -/
def DieGot (w : World) (e : Ending) (W' : World) : Prop :=
  ∃ vc c n vl ls r, e = .returned (.tuple #[vc, .int .i64 ((n : Nat) : Int), vl, .agg #[.int .i64 (Rm.x r), .int .i64 r.v]]) ∧ SCon W' vc c ∧ 1 ≤ n ∧ n ≤ 4 ∧ layRm.S W' vl ls ∧ ls.length ≤ 25 ∧ (∀ n c, vl = .slice none n c → c = 0) ∧ Ext w W'
set_option maxRecDepth 100000 in
set_option maxHeartbeats 8000000 in
theorem DrawIsExplanation_any (v : Value) (nb : Nat) (w : World) (hB : SBytes w v nb) : Calls Try.prog 6 #[v] w (DieGot w) := by
  have HB := hide hB
  obtain ⟨A, cb, rfl, -⟩ := hB
  go_enter Try.func6, Try.ntmps6
  go_wp2_with fail
  obtain ⟨W0, hW0⟩ : ∃ W0, W0 = (w.alloc (.cells #[.int .i64 0, .slice none 0 0, .slice none 0 0, .int .i64 0, .slice none 0 0] 26)).alloc (.cells #[.int .i64 0, .int .i64 0] 29) := ⟨_, rfl⟩
  have hx0 : Ext w W0 := by rw [hW0]; exact ((Ext.refl w).alloc _).trans ((Ext.refl _).alloc _)
  have hs0 : W0.heap.size = w.heap.size + 2 := by rw [hW0]; simp
  have hsa : (w.alloc (.cells #[.int .i64 0, .slice none 0 0, .slice none 0 0, .int .i64 0, .slice none 0 0] 26)).heap.size = w.heap.size + 1 := by simp
  have hrb5 : RB w.heap.size 5 W0 := by
    rw [hW0]
    refine RB.keep (S := fun _ => True) (w := w.alloc (.cells #[.int .i64 0, .slice none 0 0, .slice none 0 0, .int .i64 0, .slice none 0 0] 26)) ⟨by simp, fun i => World.frozen?_alloc_new _ _ _ _, fun i hi => ?_⟩ (((Ext.refl _).alloc _).keep _) trivial
    obtain rfl | rfl | rfl | rfl | rfl : i = 0 ∨ i = 1 ∨ i = 2 ∨ i = 3 ∨ i = 4 := by omega
    all_goals exact ⟨_, World.cell?_alloc_at _ _ _ _ rfl⟩
  have hrb2 : RB (w.heap.size + 1) 2 W0 := by
    rw [hW0, ← hsa]
    refine ⟨by simp, fun i => World.frozen?_alloc_new _ _ _ _, fun i hi => ?_⟩
    obtain rfl | rfl : i = 0 ∨ i = 1 := by omega
    all_goals exact ⟨_, World.cell?_alloc_at _ _ _ _ rfl⟩
  rw [← hW0]
  have HX0 := hide hx0
  have HRB5 := hide hrb5
  have HRB2 := hide hrb2
  clear hW0 hx0 hsa hrb5 hrb2
  refine (DrawExplainB_any _ nb W0 (HB.out.ext HX0.out)).mono ?_
  rintro e W1 ⟨vc, c, vd, ds, r, rfl, ⟨vv, va, vr, rfl, i1, i2, i3⟩, hd, n1, n4, ⟨rb0, rb1, rb2, rb3⟩, hx1⟩
  obtain ⟨Av, ev, rfl, -⟩ := i1.form
  obtain ⟨Aa, ea, rfl, -⟩ := i2.form
  obtain ⟨Ar, er, rfl, -⟩ := i3.1.form
  obtain ⟨Ad, ed, rfl, -⟩ := hd.form
  have I1 := hide i1.ltS
  have I2 := hide i2.ltS
  have I3 := hide i3.ltS
  have ID := hide hd.ltS
  have HX1 := hide hx1
  have hs1 := hx1.size
  clear i1 i2 i3 hd hx1
  go_upto_region 2 with fail
  obtain ⟨W2, hW2⟩ : ∃ W2, W2 = (W1.alloc (.cells #[.int .i64 c.kk, .slice Av c.vars.length ev, .slice Aa c.args.length ea, .int .i64 c.bound, .slice Ar c.rows.length er] 26)).alloc (.cells #[.int .i64 r.x, .int .i64 r.v] 29) := ⟨_, rfl⟩
  have hsb : (W1.alloc (.cells #[.int .i64 c.kk, .slice Av c.vars.length ev, .slice Aa c.args.length ea, .int .i64 c.bound, .slice Ar c.rows.length er] 26)).heap.size = W1.heap.size + 1 := by simp
  have hx2 : Ext W1 W2 := by rw [hW2]; exact ((Ext.refl W1).alloc _).trans ((Ext.refl _).alloc _)
  have hs2 : W2.heap.size = W1.heap.size + 2 := by rw [hW2]; simp
  have mc : ∀ i u, #[Value.int .i64 c.kk, .slice Av c.vars.length ev, .slice Aa c.args.length ea, .int .i64 c.bound, .slice Ar c.rows.length er][i]? = some u → W2.cell? ⟨W1.heap.size, i, none⟩ = some u := fun i u hu => by
    rw [hW2]
    exact (((Ext.refl _).alloc _).cells _ _ (by rw [hsb]; omega)).trans ((World.cell?_alloc_at _ _ _ _ rfl).trans hu)
  have rc : ∀ i u, #[Value.int .i64 r.x, .int .i64 r.v][i]? = some u → W2.cell? ⟨W1.heap.size + 1, i, none⟩ = some u := fun i u hu => by
    rw [hW2, ← hsb]
    exact (World.cell?_alloc_at _ _ _ _ rfl).trans hu
  rw [← hW2]
  have HX2 := hide hx2
  have hl0 : W1.heap.size < W2.heap.size := by omega
  have hl1 : W1.heap.size + 1 < W2.heap.size := by omega
  have HMC := hide (show ∀ (W : World) (S : Nat → Prop), Keep S W2 W → (∀ k, k < W2.heap.size → S k) → W.cell? ⟨W1.heap.size, 0, none⟩ = some (.int .i64 c.kk) ∧ W.cell? ⟨W1.heap.size, 1, none⟩ = some (.slice Av c.vars.length ev) ∧ W.cell? ⟨W1.heap.size, 2, none⟩ = some (.slice Aa c.args.length ea) ∧ W.cell? ⟨W1.heap.size, 3, none⟩ = some (.int .i64 c.bound) ∧ W.cell? ⟨W1.heap.size, 4, none⟩ = some (.slice Ar c.rows.length er) ∧ W.cell? ⟨W1.heap.size + 1, 0, none⟩ = some (.int .i64 r.x) ∧ W.cell? ⟨W1.heap.size + 1, 1, none⟩ = some (.int .i64 r.v) ∧ W1.heap.size + 1 < W.heap.size from fun W S hx hS =>
    ⟨(hx.cell (p := ⟨W1.heap.size, 0, none⟩) hl0 (hS _ hl0)).trans (mc 0 _ rfl), (hx.cell (p := ⟨W1.heap.size, 1, none⟩) hl0 (hS _ hl0)).trans (mc 1 _ rfl), (hx.cell (p := ⟨W1.heap.size, 2, none⟩) hl0 (hS _ hl0)).trans (mc 2 _ rfl), (hx.cell (p := ⟨W1.heap.size, 3, none⟩) hl0 (hS _ hl0)).trans (mc 3 _ rfl), (hx.cell (p := ⟨W1.heap.size, 4, none⟩) hl0 (hS _ hl0)).trans (mc 4 _ rfl), (hx.cell (p := ⟨W1.heap.size + 1, 0, none⟩) hl1 (hS _ hl1)).trans (rc 0 _ rfl), (hx.cell (p := ⟨W1.heap.size + 1, 1, none⟩) hl1 (hS _ hl1)).trans (rc 1 _ rfl), Nat.lt_of_lt_of_le (by omega) hx.size⟩)
  clear hW2 hx2 mc rc hsb
  go_wp2_with fail
  refine (newReader_any w W2 _ nb HB.out (HX0.out.trans (HX1.out.trans HX2.out))).mono ?_
  rintro e W3 ⟨br, rfl, hR3, hx3, hbr⟩
  obtain ⟨p, -, -, hp3⟩ := hR3.p0
  have hz3 := hR3.z1
  have hbl := hR3.lt
  have HR3 := hide hR3
  have HX3 := hide hx3
  clear hR3 hx3
  go_upto_region 4 with fail
  obtain ⟨W4, hW4⟩ : ∃ W4, W4 = W3.setCell ⟨br, 1, none⟩ (.int .i64 40) := ⟨_, rfl⟩
  have hR4 : RdSt w br 40 W4 := by rw [hW4]; exact HR3.out.setp
  have hk4 : Keep (fun k => k ≠ br) W3 W4 := by rw [hW4]; exact (Keep.refl _ _).set (p := ⟨br, 1, none⟩) (fun _ hh => hh rfl) _
  rw [← hW4]
  have hs4 := hk4.size
  have hb4 := hR4.lt
  have HR4 := hide hR4
  have HK24 := hide (show Keep (fun k => k < W2.heap.size) W2 W4 from (HX3.out.keep _).trans9 hk4 (fun k hk _ => by omega))
  clear hW4 hR4 hk4 hp3 hz3
  obtain ⟨k0, k1, k2, k3, k4, k5, k6, kl⟩ := HMC.out W4 _ HK24.out (fun k hk => hk)
  have HK14 := hide (show Keep (fun k => k < W1.heap.size) W1 W4 from (HX2.out.keep _).trans9 HK24.out (fun k hk _ => by omega))
  have J1 := hide ((I1.out.keep HK14.out (fun k hk => hk.2)))
  have J2 := hide ((I2.out.keep HK14.out (fun k hk => hk.2)))
  have J3 := hide ((I3.out.keep HK14.out (fun k hk => hk.2)))
  have JD := hide ((ID.out.keep HK14.out (fun k hk => hk.2)))
  obtain ⟨B, hB⟩ : ∃ B, B = W4.heap.size := ⟨_, rfl⟩
  go_cut [10, 11] from 30 (fun s10 s11 wx => ∃ xs ok, s11 = .bool ok ∧ xs.length ≤ 24 ∧ OffRm B wx s10 xs ∧ Ext W4 wx)
  case first =>
    go_wp2_with fail
    refine (ExplainSA_any c _ _ ds r W4 ⟨_, _, _, rfl, J1.out.ints, J2.out.ints, J3.out.rows⟩ JD.out.ints).mono ?_
    have hxl := xplL_len c ds r
    obtain ⟨ok, hok⟩ : ∃ ok, ok = xplB c ds r := ⟨_, rfl⟩
    obtain ⟨xs, hxs⟩ : ∃ xs, xs = xplL c ds r := ⟨_, rfl⟩
    rw [← hxs] at hxl
    rw [← hok, ← hxs]
    rintro e W5 ⟨A5, c5, rfl, -, hA5, hx5⟩
    rw [← hB] at hA5
    have HO5 := hide (OffRm.of_app hA5)
    have HX5 := hide hx5
    clear hok hxs hA5 hx5
    go_wp2_with fail
    go_meet
    exact ⟨xs, ok, rfl, hxl, HO5.out, HX5.out⟩
  case rest =>
  obtain ⟨xs, ok, rfl, hxl, ho5, hx5⟩ := hcut
  obtain ⟨W5, hW5⟩ : ∃ W5, W5 = wc := ⟨wc, rfl⟩
  subst hW5
  obtain ⟨A5, c5, rfl, -, -, -⟩ := id ho5
  have HO5 := hide ho5
  have HX5 := hide hx5
  have HR5 := hide (HR4.out.grow hx5)
  have hs5 := hx5.size
  have hbB : br < B := by omega
  clear ho5 hx5 k0 k1 k2 k3 k4 k5 k6 kl
  rename_i aK0
  refine aK0 _ _ (wp_seq_k fun K2 aK2 => ?_)
  clear aK0
  go_cut [10] from 43 (fun s10 wx => ∃ ls, OffRm B wx s10 ls ∧ ls.length ≤ 24 ∧ RdSt w br 42 wx ∧ Keep (fun k => k < B ∧ k ≠ br) W5 wx)
  case first =>
    cases ok with
    | false =>
      go_wp2_with fail
      go_meet
      exact ⟨xs, HO5.out, hxl, HR5.out.mono (by omega), Keep.refl _ _⟩
    | true =>
      by_cases hp : 0 < xs.length
      · have hpI : (0 : Int) < xs.length := by omega
        obtain ⟨g, off, rfl, -, hle5, hdrop⟩ := HO5.out.drop1 hp
        have HDR := hide hdrop
        clear hdrop
        go_wp2_with fail
        refine (pick_any w br 40 3 _ (by omega) (by omega) (by omega) HR5.out).mono ?_
        rintro e W6 ⟨z, z0, z1, rfl, hR6, hK6⟩
        have HR6 := hide hR6
        have HK6 := hide (hK6.mono (T := fun k => k < B ∧ k ≠ br) (fun k _ hk => hk.2))
        have HO6 := hide (HO5.out.keep hK6 (fun k hk => by omega))
        have HD6 := hide (HDR.out.keep hK6 (fun k hk => by omega))
        clear hR6 hK6
        by_cases hz : z = 0
        · subst hz
          have hdl : (xs.drop 1).length = xs.length - 1 := by simp
          by_cases hc1 : c5 = 1
          · subst hc1
            have hx1' : xs.length = 1 := by omega
            have h6 := HD6.out
            rw [hx1'] at h6 ⊢
            clear hpI hp hx1' HO6 HO5 HDR HD6
            have HD6 := hide h6
            clear h6
            go_wp2_with fail
            go_meet
            exact ⟨xs.drop 1, HD6.out, by omega, HR6.out.mono (by omega), HK6.out⟩
          · have h6 := HD6.out
            rw [if_neg hc1] at h6
            have hc2 : ¬ c5 - 1 = 0 := by omega
            have HD6 := hide h6
            clear h6
            go_wp2_with fail
            go_meet
            exact ⟨xs.drop 1, HD6.out, by omega, HR6.out.mono (by omega), HK6.out⟩
        · have hzb : (z == 0) = false := by simp [hz]
          go_wp2_with fail
          go_meet
          exact ⟨xs, HO6.out, hxl, HR6.out.mono (by omega), HK6.out⟩
      · have hpI : ¬ (0 : Int) < xs.length := by omega
        go_wp2_with fail
        go_meet
        exact ⟨xs, HO5.out, hxl, HR5.out.mono (by omega), Keep.refl _ _⟩
  case rest =>
    obtain ⟨ls, ho, hll, hRx, hKx⟩ := hcut
    obtain ⟨Al, cl, rfl, -, -, -⟩ := id ho
    have HO := hide ho
    have HRx := hide hRx
    have HKx := hide hKx
    have hsx := hKx.size
    clear ho hRx hKx HO5
    refine aK2 _ _ (wp_seq_k fun K3 aK3 => ?_)
    clear aK2
    go_cut [10] from 53 (fun s10 wy => ∃ ls, FinRm B wy s10 ls ∧ ls.length ≤ 25 ∧ Keep (fun k => k < B ∧ k ≠ br) W5 wy)
    case first =>
      go_wp2_with fail
      refine (pick_any w br 42 8 _ (by omega) (by omega) (by omega) HRx.out).mono ?_
      rintro e W6 ⟨z, z0, z1, rfl, hR6, hK6⟩
      have HR6 := hide hR6
      have HK6 := hide (HKx.out.trans (hK6.mono (T := fun k => k < B ∧ k ≠ br) (fun k _ hk => hk.2)))
      have HO6 := hide (HO.out.keep hK6 (fun k hk => by omega))
      have hs6 := hK6.size
      clear hR6 hK6
      by_cases hz : z = 0
      · subst hz
        go_wp2_with fail
        refine (randomRemoval_any w br 43 ds.length _ n1 n4 (by omega) HR6.out).mono ?_
        rintro e W7 ⟨x, y, rfl, x0, x1, yy0, yy1, hR7, hK7⟩
        have HK7 := hide (HK6.out.trans (hK7.mono (T := fun k => k < B ∧ k ≠ br) (fun k _ hk => hk.2)))
        have HO7 := hide (HO6.out.keep hK7 (fun k hk => by omega))
        have hs7 := hK7.size
        clear hR7 hK7
        go_wp2_with (at_builtin; go_must (refine wpList_appOff _ rfl _ _ rfl B (.slice Al ls.length cl) ls ⟨x, y⟩ W7.heap.size 1 rfl rfl (by simp; omega) (HO7.out.keep (((Ext.refl W7).alloc _).keep (fun _ => True)) (fun _ _ => trivial)) (by omega) (World.cell?_alloc_at _ _ _ _ rfl) (World.cell?_alloc_at _ _ _ _ rfl) ?_); intro v' W8 hF8 hk8; have HF8 := hide hF8; have HK8 := hide hk8; clear hF8 hk8)
        go_meet
        exact ⟨ls ++ [⟨x, y⟩], HF8.out, by simp; omega, (HK7.out.trans (((Ext.refl W7).alloc _).keep _)).trans9 HK8.out (fun k hk hs => hs.1)⟩
      · have hzb : (z == 0) = false := by simp [hz]
        go_wp2_with fail
        go_meet
        exact ⟨ls, HO6.out.fin (by omega), by omega, HK6.out⟩
    case rest =>
      clear HO HRx HKx
      obtain ⟨ls, hf, hll, hKy⟩ := hcut
      obtain ⟨Af, cf, rfl, hcf⟩ := LayS.form hf.1
      have HF := hide hf
      have hK2y : Keep (fun k => k < W2.heap.size) W2 wc := (HK24.out.trans9 (HX5.out.keep (fun k => k < W2.heap.size)) (fun k _ hk => hk)).trans9 hKy (fun k hk _ => ⟨by omega, by omega⟩)
      obtain ⟨k0, k1, k2, k3, k4, k5, k6, kl⟩ := HMC.out wc _ hK2y (fun k hk => hk)
      have hK0y : Keep (fun k => k < W0.heap.size) W0 wc := ((HX1.out.trans HX2.out).keep (fun k => k < W0.heap.size)).trans9 hK2y (fun k hk _ => by omega)
      obtain ⟨hrl, u0, u1, u2, u3, u4, r0, r1, r2, r3, r4, z0, z1, z2, z3, z4⟩ := (HRB5.out.keep hK0y (by omega)).five
      obtain ⟨hrl2, t0, t1, s0, s1, y0', y1'⟩ := (HRB2.out.keep hK0y (by omega)).two
      have hne : w.heap.size ≠ w.heap.size + 1 := by omega
      have hq1 : W1.heap.size + 1 ≠ w.heap.size := by omega
      have hq2 : W1.heap.size + 1 ≠ w.heap.size + 1 := by omega
      have hq3 : W1.heap.size ≠ w.heap.size := by omega
      have kl0 : W1.heap.size < wc.heap.size := by omega
      have HKy := hide hKy
      have HK0y := hide hK0y
      have hsy := hKy.size
      clear hf hKy hK2y hK0y
      go_upto_region 9 with fail
      refine wp_region_any (by kernel_rfl) ?_
      change wpAny _ _ _ _ _ _ _ (World.drew _)
      refine wpAny_take (i := 1) (v := ?_) rfl (by kernel_rfl) (by kernel_rfl) (by kernel_rfl) (by first | exact fun _ _ _ h => h | (rintro _ _ _ ⟨h, _⟩; cases h)) (Or.inl ⟨by rfl, ?hy1⟩) ?_
      case hy1 => intro w; go_simp; with_reducible rfl
      simp only [Act.put, List.getElem_toArray, List.getElem_cons_zero, List.getElem_cons_succ, List.setIfInBounds_toArray, List.set_cons_succ, List.set_cons_zero]
      refine wpAny_take (i := 2) (v := ?_) rfl (by kernel_rfl) (by kernel_rfl) (by kernel_rfl) (by first | exact fun _ _ _ h => h | (rintro _ _ _ ⟨h, _⟩; cases h)) (Or.inl ⟨by rfl, ?hy2⟩) ?_
      case hy2 => intro w; go_simp; with_reducible rfl
      simp only [Act.put, List.getElem_toArray, List.getElem_cons_zero, List.getElem_cons_succ, List.setIfInBounds_toArray, List.set_cons_succ, List.set_cons_zero]
      refine wpAny_take (i := 3) (v := ?_) rfl (by kernel_rfl) (by kernel_rfl) (by kernel_rfl) (by first | exact fun _ _ _ h => h | (rintro _ _ _ ⟨h, _⟩; cases h)) (Or.inl ⟨by rfl, ?hy3⟩) ?_
      case hy3 => intro w; go_simp; with_reducible rfl
      simp only [Act.put, List.getElem_toArray, List.getElem_cons_zero, List.getElem_cons_succ, List.setIfInBounds_toArray, List.set_cons_succ, List.set_cons_zero]
      refine wpAny_flt 4 8 [0, 5, 6, 7] [] (.agg #[.int .i64 r.x, .int .i64 r.v]) (fun w => w.cell? ⟨W1.heap.size + 1, 0, none⟩ = some (.int .i64 r.x) ∧ w.cell? ⟨W1.heap.size + 1, 1, none⟩ = some (.int .i64 r.v)) rfl (by kernel_rfl) rfl (fun _ _ _ h => h) ⟨k5, k6⟩ (And.intro (by rfl) ?hys) ?_
      case hys => intro w' hw'; obtain ⟨hk0, hk1⟩ : w'.cell? ⟨W1.heap.size + 1, 0, none⟩ = some (.int .i64 r.x) ∧ w'.cell? ⟨W1.heap.size + 1, 1, none⟩ = some (.int .i64 r.v) := hw'; go_simp; all_goals exact rfl
      simp only [nths, nth1, Act.put, List.setIfInBounds_toArray, List.set_cons_succ, List.set_cons_zero]
      refine wpSeqC_cons fun K hK => ?_
      go_simp
      refine hK _ _ ⟨k5, k6⟩ ?_
      clear hK K
      refine wpSeqC_cons fun K hK => ?_
      go_simp
      refine hK _ _ ⟨by go_simp, by go_simp⟩ ?_
      clear hK K
      refine wpSeqC_cons fun K hK => ?_
      go_simp
      refine hK _ _ ⟨by go_simp, by go_simp⟩ ?_
      clear hK K
      refine wpSeqC_cons fun K hK => ?_
      go_simp
      refine hK _ _ ⟨by go_simp, by go_simp⟩ ?_
      clear hK K
      refine wpSeqC_nil ?_
      go_wp2_with fail
      refine bodyPost_ret (v := .tuple #[.agg #[.int .i64 c.kk, .slice Av c.vars.length ev, .slice Aa c.args.length ea, .int .i64 c.bound, .slice Ar c.rows.length er], .int .i64 ds.length, .slice Af ls.length cf, .agg #[.int .i64 r.x, .int .i64 r.v]]) (by simp only [results, Try.results6]; go_simp) rfl ?_
      have hfin : ∀ W', Keep (fun k => k ≠ w.heap.size ∧ k ≠ w.heap.size + 1) wc W' → DieGot w (.returned (.tuple #[.agg #[.int .i64 c.kk, .slice Av c.vars.length ev, .slice Aa c.args.length ea, .int .i64 c.bound, .slice Ar c.rows.length er], .int .i64 ds.length, .slice Af ls.length cf, .agg #[.int .i64 r.x, .int .i64 r.v]])) W' := fun W' hk => by
        have h5 : Keep (fun k => k < B ∧ k ≠ br) W5 wc := HKy.out
        have hff := HF.out.keep hk (fun k hk => ⟨by omega, by omega⟩)
        refine ⟨_, c, ds.length, _, ls, r, rfl, ⟨_, _, _, rfl, ?_, ?_, ?_⟩, n1, n4, hff.1, hll, hff.2.2, ext_of_keepX (((HX0.out.keep (fun k => k < w.heap.size)).then HK0y.out (fun k hk hs => by omega))) hk (fun k hk => ⟨by omega, by omega⟩)⟩
        · exact (((J1.out.ext HX5.out).keep h5 (fun k hk => ⟨by omega, by omega⟩)).keep hk (fun k hk => ⟨by omega, by omega⟩)).ints
        · exact (((J2.out.ext HX5.out).keep h5 (fun k hk => ⟨by omega, by omega⟩)).keep hk (fun k hk => ⟨by omega, by omega⟩)).ints
        · exact (((J3.out.ext HX5.out).keep h5 (fun k hk => ⟨by omega, by omega⟩)).keep hk (fun k hk => ⟨by omega, by omega⟩)).rows
      exact hfin _ (Keep.drew (by (repeat refine Keep.set ?_ (fun _ hh => by first | exact hh.1 rfl | exact hh.2 rfl) _); exact Keep.refl _ _))
end Go.Proofs.Ytmfbdaocnijnpaa
