/- Draws of the generator: a list of constraints in the making. -/
import Derived.Test.YtgeflejmdlipmaaDrw11
namespace Go.Proofs.Ytgeflejmdlipmaa
open Go.RowKit

theorem Try.infoCd : (Try.prog.info? 54).map (fun i => (i.zero, i.size, i.bytes)) = some (some (.agg #[.int .i64 0, .slice none 0 0, .slice none 0 0, .int .i64 0, .slice none 0 0]), 5, 88) := by kernel_rfl
/-- Block g holds constraints. -/
def HasC (w : World) (g : Nat) : Prop := ∃ cur, w.heap[g]? = some (.cells cur 54 (0, 0))
theorem RowW.notC {w : World} {v : Value} {xs : List Int} (h : RowW w v xs) {g : Nat} (hg : HasC w g) : v.ownBlock ≠ some g := by
  obtain ⟨b, cap, m, f, rfl, -, -, ⟨cur, k1, -⟩, -⟩ := h
  obtain ⟨cur', k2⟩ := hg
  intro e
  have e : some b = some g := e
  injection e with e
  subst e
  rw [k1] at k2
  injection k2 with k2
  injection k2 with _ k3
  cases k3
theorem IV.apart {S : Nat → Prop} {w : World} {v : Value} {xs : List Int} (h : IV S w v xs) {g : Nat} (hg : HasC w g) : IV (fun k => S k ∧ k ≠ g) w v xs := by
  refine ⟨h.1, fun b hb => ⟨h.2.1 b hb, ?_⟩, h.2.2⟩
  rintro rfl
  rcases h.1 with ⟨rfl, -⟩ | h1
  · cases hb
  · exact h1.notC hg hb
theorem RV.apart {S : Nat → Prop} {w : World} {v : Value} {rs : List (List Int)} (h : RV S w v rs) {g : Nat} (hg : HasC w g) : RV (fun k => S k ∧ k ≠ g) w v rs := by
  obtain ⟨⟨cells, h1, h2, h3⟩, h4⟩ := h
  refine ⟨⟨cells, h1, fun b hb => ⟨h2 b hb, ?_⟩, fun i hi => ?_⟩, h4⟩
  · rintro rfl
    obtain ⟨cur', k2⟩ := hg
    rcases h1.2 with ⟨e, -⟩ | ⟨g', cap, cur, e, -, k1, -⟩
    · rw [e] at hb; cases hb
    · rw [e] at hb
      have hb : some g' = some b := hb
      injection hb with hb
      subst hb
      rw [k1] at k2
      injection k2 with k2
      injection k2 with _ k3
      cases k3
  · obtain ⟨cv, q1, q2, q3⟩ := h3 i hi
    exact ⟨cv, q1, q2, fun b hb => ⟨q3 b hb, fun e => q2.notC hg (e ▸ hb)⟩⟩
/-- What five values read as. -/
def CV5 (L : Nat) (S : Nat → Prop) (w : World) (F : Nat → Option Value) (c : Con) : Prop :=
  ∃ vv va vr, F 0 = some (.int .i64 c.kk) ∧ F 1 = some vv ∧ F 2 = some va ∧ F 3 = some (.int .i64 c.bound) ∧ F 4 = some vr ∧ IV S w vv c.vars ∧ IV S w va c.args ∧ RV S w vr c.rows ∧ (0 < c.vars.length ∧ c.vars.length ≤ L ∧ c.args.length ≤ L)
theorem CV5.wide {L M : Nat} {S : Nat → Prop} {w : World} {F : Nat → Option Value} {c : Con} (h : CV5 L S w F c) (hL : L ≤ M) : CV5 M S w F c := by
  obtain ⟨vv, va, vr, e0, e1, e2, e3, e4, h1, h2, h3, h4⟩ := h
  exact ⟨vv, va, vr, e0, e1, e2, e3, e4, h1, h2, h3, by omega⟩
theorem CV5.keep {L : Nat} {S T : Nat → Prop} {w w' : World} {F : Nat → Option Value} {c : Con} (h : CV5 L S w F c) (hk : Keep T w w') (hS : ∀ k, S k → T k) : CV5 L S w' F c := by
  obtain ⟨vv, va, vr, e0, e1, e2, e3, e4, h1, h2, h3, h4⟩ := h
  exact ⟨vv, va, vr, e0, e1, e2, e3, e4, h1.keep hk hS, h2.keep hk hS, h3.keep hk hS, h4⟩
theorem CV5.mono {L : Nat} {S T : Nat → Prop} {w : World} {F : Nat → Option Value} {c : Con} (h : CV5 L S w F c) (hS : ∀ k, S k → T k) : CV5 L T w F c := by
  obtain ⟨vv, va, vr, e0, e1, e2, e3, e4, h1, h2, h3, h4⟩ := h
  exact ⟨vv, va, vr, e0, e1, e2, e3, e4, h1.mono hS, h2.mono hS, h3.mono hS, h4⟩
theorem CV5.apart {L : Nat} {S : Nat → Prop} {w : World} {F : Nat → Option Value} {c : Con} (h : CV5 L S w F c) {g : Nat} (hg : HasC w g) : CV5 L (fun k => S k ∧ k ≠ g) w F c := by
  obtain ⟨vv, va, vr, e0, e1, e2, e3, e4, h1, h2, h3, h4⟩ := h
  exact ⟨vv, va, vr, e0, e1, e2, e3, e4, h1.apart hg, h2.apart hg, h3.apart hg, h4⟩
theorem CV5.cast {L : Nat} {S : Nat → Prop} {w : World} {F G : Nat → Option Value} {c : Con} (h : CV5 L S w F c) (hFG : ∀ j, j < 5 → F j = G j) : CV5 L S w G c := by
  obtain ⟨vv, va, vr, e0, e1, e2, e3, e4, h⟩ := h
  exact ⟨vv, va, vr, (hFG 0 (by omega)).symm.trans e0, (hFG 1 (by omega)).symm.trans e1, (hFG 2 (by omega)).symm.trans e2, (hFG 3 (by omega)).symm.trans e3, (hFG 4 (by omega)).symm.trans e4, h⟩
/-- v is nil or a slice of the call's own whose cells read as the constraints cs; their lists lie in blocks that S names, v's own block is from base on. -/
def CA (L base : Nat) (S : Nat → Prop) (w : World) (v : Value) (cs : List Con) : Prop :=
  ∃ cells, w.ownsRow base 54 5 v cs.length cells ∧ ∀ i, i < cs.length → CV5 L S w (fun j => cells[i * 5 + j]?) (con0 cs i)
theorem CA.nil_ (L base : Nat) (S : Nat → Prop) (w : World) : CA L base S w (.slice none 0 0) [] := ⟨[], World.ownsRow_nil w base _ _, fun i hi => absurd hi (by simp)⟩
theorem CA.form {L base : Nat} {S : Nat → Prop} {w : World} {v : Value} {cs : List Con} (h : CA L base S w v cs) : ∃ A c, v = .slice A cs.length c ∧ cs.length ≤ c := by
  obtain ⟨cells, h, -⟩ := h
  rcases h.2 with ⟨h1, h2⟩ | ⟨g, cap, cur, h1, -, -, h2, -⟩
  · exact ⟨none, 0, by rw [h1, h2], by omega⟩
  · exact ⟨_, _, h1, h2⟩
theorem CA.keep {L base : Nat} {S T : Nat → Prop} {w w' : World} {v : Value} {cs : List Con} (h : CA L base S w v cs) (hk : Keep T w w') (hb : ∀ k, base ≤ k → T k) (hS : ∀ k, S k → T k) : CA L base S w' v cs := by
  obtain ⟨cells, h1, h2⟩ := h
  refine ⟨cells, ⟨h1.1, ?_⟩, fun i hi => (h2 i hi).keep hk hS⟩
  rcases h1.2 with hn | ⟨g, cap, cur, e, hbg, hgg, rest⟩
  · exact .inl hn
  · exact .inr ⟨g, cap, cur, e, hbg, (hk.block g (Array.getElem?_eq_some_iff.1 hgg).1 (hb g hbg)).trans hgg, rest⟩
theorem CA.wide {L M base : Nat} {S : Nat → Prop} {w : World} {v : Value} {cs : List Con} (h : CA L base S w v cs) (hL : L ≤ M) : CA M base S w v cs := by
  obtain ⟨cells, h1, h2⟩ := h
  exact ⟨cells, h1, fun i hi => (h2 i hi).wide hL⟩
theorem CA.ext {L base : Nat} {S : Nat → Prop} {w w' : World} {v : Value} {cs : List Con} (h : CA L base S w v cs) (hx : Ext w w') : CA L base S w' v cs := h.keep (hx.keep (fun _ => True)) (fun _ _ => trivial) (fun _ _ => trivial)
theorem IV.oneC {S : Nat → Prop} {w : World} {v : Value} {xs : List Int} (h : IV S w v xs) : v.oneCell' = true := by
  obtain ⟨A, c, rfl, -⟩ := h.form; rfl
theorem RV.oneC {S : Nat → Prop} {w : World} {v : Value} {rs : List (List Int)} (h : RV S w v rs) : v.oneCell' = true := by
  obtain ⟨A, c, rfl, -⟩ := h.1.form; rfl
/-- append of one constraint. -/
theorem run_appCA (L base : Nat) (S : Nat → Prop) (w : World) (ty : TypeId) (v : Value) (cs : List Con) (c : Con) (b cp : Nat)
    (hown : CA L base S w v cs) (hc : CV5 L S w (fun j => w.cell? ⟨b, j, none⟩) c) (hl : cs.length ≤ 1000000) (hb : base ≤ w.heap.size) :
    ∃ v' w', (Builtin.append_ #[24, 24] ty #[v, .slice (some ⟨b, 0, none⟩) 1 cp]).run Try.prog w = .ok v' w' ∧ CA L base S w' v' (cs ++ [c]) ∧ w.grownBy w' v.ownBlock ∧ (∀ g, v.ownBlock = some g → base ≤ g) := by
  obtain ⟨i, hi, hz⟩ := Option.map_eq_some_iff.1 Try.infoCd
  simp only [Prod.mk.injEq] at hz
  obtain ⟨hz1, hz2, hz3⟩ := hz
  obtain ⟨cells, h1, h2⟩ := hown
  have hc0 := hc
  obtain ⟨vv, va, vr, e0, e1, e2, e3, e4, q1, q2, q3, q4⟩ := hc
  obtain ⟨v', w', r1, r2, r3, -⟩ := run_append_own (P := Try.prog) w base 24 ty 54 i _ 5 88 Try.underlying24 hi hz1 hz2 hz3 rfl (by omega) v cs.length cells h1 ⟨b, 0, none⟩ 1 cp [.int .i64 c.kk, vv, va, .int .i64 c.bound, vr] rfl
    (fun j u hj => by
      have hadd : (⟨b, 0, none⟩ : Addr).add j = ⟨b, j, none⟩ := by unfold Addr.add; split <;> simp_all
      rw [hadd]
      match j with
      | 0 => simp at hj; subst hj; exact e0
      | 1 => simp at hj; subst hj; exact e1
      | 2 => simp at hj; subst hj; exact e2
      | 3 => simp at hj; subst hj; exact e3
      | 4 => simp at hj; subst hj; exact e4
      | j + 5 => simp at hj)
    (fun u hu => by
      simp only [List.mem_cons, List.not_mem_nil, or_false] at hu
      rcases hu with rfl | rfl | rfl | rfl | rfl
      · rfl
      · exact q1.oneC
      · exact q2.oneC
      · rfl
      · exact q3.oneC)
    (by unfold maxLen; omega) (by omega) hb
  have hcl : cells.length = cs.length * 5 := h1.1
  have hkeep : ∀ {F : Nat → Option Value} {d : Con}, CV5 L S w F d → CV5 L S w' F d := by
    intro F d hd
    rcases h1.2 with ⟨hv, -⟩ | ⟨g, cap, cur, hv, -, hgg, -⟩
    · refine hd.keep (T := fun _ => True) ⟨r3.os, r3.tape, r3.output, r3.size, fun k hk _ => r3.block k hk (by rw [hv]; simp [Value.ownBlock])⟩ (fun _ _ => trivial)
    · exact ((hd.apart (g := g) ⟨cur, hgg⟩).keep (T := fun k => k ≠ g) ⟨r3.os, r3.tape, r3.output, r3.size, fun k hk hne => r3.block k hk (by rw [hv]; intro e; have e : some k = some g := e; injection e with e; exact hne e)⟩ (fun k hk => hk.2)).mono (fun k hk => hk.1)
  refine ⟨v', w', r1, ⟨cells ++ [.int .i64 c.kk, vv, va, .int .i64 c.bound, vr], by simpa using r2, fun i hi => ?_⟩, r3, fun g hg => (World.ownsRow.lt h1 g hg).1⟩
  simp at hi
  by_cases hlt : i < cs.length
  · rw [show con0 (cs ++ [c]) i = con0 cs i by simp [con0, List.getD_eq_getElem?_getD, List.getElem?_append_left hlt]]
    exact (hkeep (h2 i hlt)).cast fun j hj => (List.getElem?_append_left (by omega)).symm
  · obtain rfl : i = cs.length := by omega
    rw [show con0 (cs ++ [c]) cs.length = c by simp [con0]]
    refine (hkeep (F := fun j => [Value.int .i64 c.kk, vv, va, .int .i64 c.bound, vr][j]?) ⟨vv, va, vr, rfl, rfl, rfl, rfl, rfl, q1, q2, q3, q4⟩).cast fun j hj => ?_
    show _ = (cells ++ _)[cs.length * 5 + j]?
    rw [List.getElem?_append_right (by omega), hcl, show cs.length * 5 + j - cs.length * 5 = j by omega]
theorem wpList_appCA (w : World) {ops : Array Oper} {rest : List Oper} {o : Oper} {a : Act} {Q : Exit → Act → World → Prop} (hgd : o.guard = none) (s x : Operand)
    (ho : o.op = .call { callee := .builtin .append, args := #[s, x], argTypes := #[24, 24] })
    (L base : Nat) (S : Nat → Prop) (v : Value) (cs : List Con) (c : Con) (b cp : Nat) (hs : a.eval s = v) (hx : a.eval x = .slice (some ⟨b, 0, none⟩) 1 cp)
    (hown : CA L base S w v cs) (hc : CV5 L S w (fun j => w.cell? ⟨b, j, none⟩) c) (hl : cs.length ≤ 1000000) (hb : base ≤ w.heap.size)
    (h : ∀ v' w', CA L base S w' v' (cs ++ [c]) → Below base w w' → wpList Try.prog ops Q rest (a.put o.dst v') w') : wpList Try.prog ops Q (o :: rest) a w := by
  obtain ⟨v', w', hrun, h1, h2, h3⟩ := run_appCA L base S w o.type v cs c b cp hown hc hl hb
  refine wpList_plain hgd fun K hK => ?_
  unfold Oper.wp
  simp [execOp, ho, resolve, invoke, builtin, hs, hx, hrun, Result.andThen]
  exact hK _ _ (h v' w' h1 ⟨h2.os, h2.tape, h2.output, h2.size, fun k hk => h2.block k (by omega) (fun e => by have := h3 k e.symm; omega)⟩)
/-- They read as constraints. -/
theorem CA.cons {L base : Nat} {S : Nat → Prop} {w : World} {v : Value} {cs : List Con} (h : CA L base S w v cs) (hl : cs.length ≤ 1000000) : SCons w v cs := by
  obtain ⟨cells, h1, h2⟩ := h
  rcases h1.2 with ⟨e1, e2⟩ | ⟨g, cap, cur, e1, hg, hh, hnc, hm, hcs, htk⟩
  · exact ⟨none, 0, by rw [e1, e2], by omega, by omega, fun hp => absurd hp (by omega)⟩
  · refine ⟨_, _, e1, hnc, by omega, fun _ => ⟨g, 0, rfl, (Array.getElem?_eq_some_iff.1 hh).1, fun i hi => ?_⟩⟩
    obtain ⟨vv, va, vr, e0, e1, e2, e3, e4, q1, q2, q3, -⟩ := h2 i hi
    have hcell : ∀ j u, j < 5 → cells[i * 5 + j]? = some u → w.cell? ⟨g, 0 + i * 5 + j, none⟩ = some u := by
      intro j u hj hu
      have e5 : (cur.toList.take (cs.length * 5))[i * 5 + j]? = cells[i * 5 + j]? := by rw [htk]
      rw [List.getElem?_take, if_pos (by omega), hu, Array.getElem?_toList] at e5
      simp [World.cell?, hh, e5]
    exact ⟨vv, va, vr, hcell 0 _ (by omega) e0, hcell 1 _ (by omega) e1, hcell 2 _ (by omega) e2, hcell 3 _ (by omega) e3, hcell 4 _ (by omega) e4, q1.ints, q2.ints, q3.rows⟩
end Go.Proofs.Ytgeflejmdlipmaa
