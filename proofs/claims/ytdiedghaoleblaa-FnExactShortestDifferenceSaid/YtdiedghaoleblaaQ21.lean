/- Memory of the search of the program's ShortestDifference: the queue, the words, the states that were seen. -/
import Derived.Test.YtdiedghaoleblaaSdS
import Derived.Test.YtdiedghaoleblaaMcIn
import Derived.Maps.OwnSet
import Derived.ArgAppend
import Derived.Test.YtdiedghaoleblaaRelZ
import Derived.Deep.CutBlock
import Derived.Deep.DeepCutAuto
namespace Go.Proofs.Ytdiedghaoleblaa
open Go.RowKit Go.Maps

/-! ### states that were seen -/
theorem lawSeen : Go.Maps.Keyed Try.prog 3 := Go.Maps.int_keyed Try.underlying3
theorem zeroSeen (w : World) : (zeroValue 4).run Try.prog w = .ok (.bool false) w := by kernel_rfl
set_option maxRecDepth 100000 in
theorem bool_inv9 {v : Value} {z : DataW Unit × List MemPlace} (h : plainElem Try.prog 4 v = some z) : ∃ x, v = .bool x ∧ z = (.lit (.bool x), []) := by
  unfold plainElem at h
  rw [Try.underlying4] at h
  split at h
  · rename_i x _
    injection h with h
    exact ⟨x, rfl, h.symm⟩
  · rename_i e
    cases e
  · rename_i e
    cases e
  · cases h
/-- The map in block b says true at the numbers of S, and false else. -/
def MapB (w : World) (b : Nat) (S : List Int) : Prop := ∃ D : DataW Unit, w.ownsMap Try.prog 3 (plainElem Try.prog 4) b S.length D ∧ ∀ x : Int, (Lit.int .i64 x).wf = true → D.atKey (.int .i64 x) (.lit (.bool false)) = .lit (.bool (decide (x ∈ S)))
theorem MapB.made (w : World) : MapB (w.alloc (.map #[] 0)) w.heap.size [] := ⟨_, World.ownsMap_made w Try.prog 3 _, fun _ _ => rfl⟩
theorem MapB.lt {w : World} {b : Nat} {S : List Int} (h : MapB w b S) : b < w.heap.size := by
  obtain ⟨D, h, -⟩ := h
  exact h.lt
theorem MapB.keep {K : Nat → Prop} {w w' : World} {b : Nat} {S : List Int} (h : MapB w b S) (hk : Keep K w w') (hb : K b) : MapB w' b S := by
  obtain ⟨D, h1, h2⟩ := h
  have hlt := h1.lt
  obtain ⟨es, clock, q1, F, q2, q3⟩ := h1
  exact ⟨D, ⟨es, clock, (hk.block b hlt hb).trans q1, F, q2, q3⟩, h2⟩
set_option maxRecDepth 100000 in
theorem MapB.look {w : World} {b : Nat} {S : List Int} (h : MapB w b S) {x : Int} (hx : (Lit.int .i64 x).wf = true) :
    (Instr.lookup 64 (.map (some b)) (.int .i64 x) false).run Try.prog w = .ok (.bool (decide (x ∈ S))) w := by
  obtain ⟨D, h1, h2⟩ := h
  obtain ⟨v, ps, hrun, hv⟩ := h1.lookup lawSeen Try.underlying64 (zeroSeen w) (plainElem_bool Try.underlying4 false) (keyOf_int_mk Try.underlying3 hx)
  rw [h2 x hx] at hv
  obtain ⟨y, rfl, e⟩ := bool_inv9 hv
  injection e with e _
  injection e with e
  injection e with e
  rw [hrun, e]
set_option maxRecDepth 100000 in
theorem MapB.put {w : World} {b : Nat} {S : List Int} (h : MapB w b S) (hS : S.length ≤ 1000) {x : Int} (hx : (Lit.int .i64 x).wf = true) :
    ∃ w', (Instr.mapUpdate 64 (.map (some b)) (.int .i64 x) (.bool true)).run Try.prog w = .ok () w' ∧ MapB w' b (S ++ [x]) ∧ w.grownBy w' (some b) := by
  obtain ⟨D, h1, h2⟩ := h
  obtain ⟨w', q1, q2, q3⟩ := h1.update lawSeen Try.underlying64 (by unfold maxLen; omega) (keyOf_int_mk Try.underlying3 hx) (plainElem_bool Try.underlying4 true)
  refine ⟨w', q1, ⟨_, by simpa using q2, fun y hy => ?_⟩, q3⟩
  by_cases e : y = x
  · subst e
    rw [atKey_put_same h1.isMap (by exact trivial)]
    simp
  · rw [atKey_put_other (fun e2 => e (by injection e2 with _ e2)), h2 y hy]
    simp [e]
def iM (b : Nat) (S : List Int) : Itm := ⟨fun k => k = b, fun W => MapB W b S⟩
theorem iM_st (b : Nat) (S : List Int) : (iM b S).St := fun _ _ h hk => h.keep hk rfl

/-! ### the queue -/
def qF : List Int → List Value → List Value
  | x :: xs, v :: vs => .int .i64 x :: v :: qF xs vs
  | _, _ => []
theorem qF_len : ∀ (xs : List Int) (vs : List Value), xs.length = vs.length → (qF xs vs).length = xs.length * 2
  | [], _, _ => by simp [qF]
  | x :: xs, [], h => by simp at h
  | x :: xs, v :: vs, h => by
    have := qF_len xs vs (by simpa using h)
    simp [qF, this]; omega
theorem qF_snoc (x : Int) (v : Value) : ∀ (xs : List Int) (vs : List Value), xs.length = vs.length → qF (xs ++ [x]) (vs ++ [v]) = qF xs vs ++ [.int .i64 x, v]
  | [], [], _ => by simp [qF]
  | [], _ :: _, h => by simp at h
  | y :: xs, [], h => by simp at h
  | y :: xs, u :: vs, h => by simp [qF, qF_snoc x v xs vs (by simpa using h)]
theorem qF_drop : ∀ (xs : List Int) (vs : List Value), xs.length = vs.length → (qF xs vs).drop 2 = qF (xs.drop 1) (vs.drop 1)
  | [], [], _ => by simp [qF]
  | [], _ :: _, h => by simp at h
  | y :: xs, [], h => by simp at h
  | y :: xs, u :: vs, h => by simp [qF]
/-- What lies at the head of the queue. -/
theorem qF_head {st : List Int} {vs : List Value} {k : Nat} (hk : k < st.length) (hv : k < vs.length) : (qF (st.drop k) (vs.drop k))[0]? = some (.int .i64 (at0 st k)) ∧ (qF (st.drop k) (vs.drop k))[1]? = some (vs.getD k (.bool false)) := by
  rw [List.drop_eq_getElem_cons hk, List.drop_eq_getElem_cons hv]
  unfold at0
  rw [getD_lt _ _ hk, getD_lt _ _ hv]
  exact ⟨rfl, rfl⟩
/-- v is a slice of n pairs, cs are their cells; the room behind them may be written. -/
def Que (w : World) (v : Value) (cs : List Value) (n : Nat) : Prop := ∃ g off cap, v = .slice (some ⟨g, off, none⟩) n cap ∧ n ≤ cap ∧ cap ≤ 9223372036854775807 ∧ cs.length = n * 2 ∧ g < w.heap.size ∧ (∀ j u, cs[j]? = some u → w.cell? ⟨g, off + j, none⟩ = some u) ∧
  ∀ j, j < cap * 2 → (w.cell? ⟨g, off + j, none⟩).isSome = true ∧ w.frozen? ⟨g, off + j, none⟩ = false
theorem Que.keep {K : Nat → Prop} {w w' : World} {v : Value} {cs : List Value} {n : Nat} (h : Que w v cs n) (hk : Keep K w w') (hb : ∀ g, v.ownBlock = some g → K g) : Que w' v cs n := by
  obtain ⟨g, off, cap, rfl, h1, h2, h3, h4, h5, h6⟩ := h
  have hg := hb g rfl
  exact ⟨g, off, cap, rfl, h1, h2, h3, Nat.lt_of_lt_of_le h4 hk.size, fun j u hj => (hk.cell (p := ⟨g, _, none⟩) h4 hg).trans (h5 j u hj), fun j hj => ⟨by rw [hk.cell (p := ⟨g, _, none⟩) h4 hg]; exact (h6 j hj).1, (hk.frz (p := ⟨g, _, none⟩) h4 hg).trans (h6 j hj).2⟩⟩
def iQ (v : Value) (cs : List Value) (n : Nat) : Itm := ⟨fun k => v.ownBlock = some k, fun W => Que W v cs n⟩
theorem iQ_st (v : Value) (cs : List Value) (n : Nat) : (iQ v cs n).St := fun _ _ h hk => Que.keep h hk (fun _ e => e)
theorem Que.lt {w : World} {v : Value} {cs : List Value} {n : Nat} (h : Que w v cs n) : ∀ k, v.ownBlock = some k → k < w.heap.size := by
  obtain ⟨g, off, cap, rfl, -, -, -, h4, -⟩ := h
  intro k hk
  have hk : some g = some k := hk
  injection hk with hk
  omega
/-- Without the first. -/
theorem Que.drop1 {w : World} {g off n cap : Nat} {cs : List Value} (h : Que w (.slice (some ⟨g, off, none⟩) n cap) cs n) (hn : 0 < n) :
    Que w (.slice (if cap = 1 then some ⟨g, off, none⟩ else some ⟨g, off + 2, none⟩) (n - 1) (cap - 1)) (cs.drop 2) (n - 1) := by
  obtain ⟨g', off', cap', e, h1, h2, h3, h4, h5, h6⟩ := h
  injection e with e e2 e3
  injection e with e
  injection e with e e4 _
  subst e e3 e4
  by_cases hc : cap = 1
  · rw [if_pos hc]
    refine ⟨g, off, cap - 1, rfl, by omega, by omega, by rw [List.length_drop]; omega, h4, fun j u hj => ?_, fun j hj => by omega⟩
    have := (List.getElem?_eq_some_iff.1 hj).1
    rw [List.length_drop] at this
    omega
  · rw [if_neg hc]
    refine ⟨g, off + 2, cap - 1, rfl, by omega, by omega, by rw [List.length_drop]; omega, h4, fun j u hj => ?_, fun j hj => ?_⟩
    · rw [List.getElem?_drop] at hj
      rw [Nat.add_assoc]
      exact h5 _ _ hj
    · rw [Nat.add_assoc]
      exact h6 _ (by omega)
theorem Apt.dropQ {w0 W : World} {l : List Itm} (h : Apt w0 W l) (m : Nat) {g off n cap : Nat} {cs : List Value} (hm : l[m]? = some (iQ (.slice (some ⟨g, off, none⟩) n cap) cs n)) (hn : 0 < n) :
    Apt w0 W (l.set m (iQ (.slice (if cap = 1 then some ⟨g, off, none⟩ else some ⟨g, off + 2, none⟩) (n - 1) (cap - 1)) (cs.drop 2) (n - 1))) := by
  refine h.upd m _ _ hm (Keep.refl _ W) (Que.drop1 (h.p m _ hm) hn) (fun k hk => ?_) (iQ_st _ _ _)
  have hk' : (Value.slice (some ⟨g, off, none⟩) n cap).ownBlock = some k := by
    have hk : (Value.slice (if cap = 1 then some ⟨g, off, none⟩ else some ⟨g, off + 2, none⟩) (n - 1) (cap - 1)).ownBlock = some k := hk
    split at hk <;> exact hk
  exact ⟨.inl hk', (h.d m _ hm k hk').2⟩
set_option maxRecDepth 100000 in
theorem Que.of_owns {B : Nat} {w : World} {v : Value} {cs : List Value} {n : Nat} (hn : 0 < n) (h : w.ownsRow B 66 2 v n cs) : Que w v cs n := by
  rcases h.2 with ⟨h1, h2⟩ | ⟨g, cap, cur, h1, hg, hh, hnc, hm, hcs, htk⟩
  · omega
  · refine ⟨g, 0, cap, h1, hnc, by unfold maxLen at hm; omega, h.1, (Array.getElem?_eq_some_iff.1 hh).1, fun j u hj => ?_, fun j hj => ?_⟩
    · have hjl := (List.getElem?_eq_some_iff.1 hj).1
      rw [h.1] at hjl
      rw [← htk, List.getElem?_take, if_pos hjl, Array.getElem?_toList] at hj
      rw [Nat.zero_add]
      simp [World.cell?, hh, hj]
    · have hjs : j < cur.size := by rw [hcs]; exact hj
      rw [Nat.zero_add]
      exact ⟨by simp [World.cell?, hh, hjs], by simp [World.frozen?, hh]⟩
theorem Try.infoReach : ∃ i, Try.prog.info? 66 = some i ∧ i.zero = some (.agg #[.int .i64 0, .slice none 0 0]) ∧ i.size = 2 ∧ i.bytes = 32 := by
  obtain ⟨i, h1, h2⟩ := Option.map_eq_some_iff.1 (show (Try.prog.info? 66).map (fun i => (i.zero, i.size, i.bytes)) = some (some (.agg #[.int .i64 0, .slice none 0 0]), 2, 32) by kernel_rfl)
  simp only [Prod.mk.injEq] at h2
  exact ⟨i, h1, h2.1, h2.2.1, h2.2.2⟩
set_option maxRecDepth 100000 in
/-- append of one pair. -/
theorem wpList_appQ (w : World) {ops : Array Oper} {rest : List Oper} {o : Oper} {a : Act} {Q : Exit → Act → World → Prop} (hgd : o.guard = none) (s x : Operand)
    (ho : o.op = .call { callee := .builtin .append, args := #[s, x], argTypes := #[67, 67] })
    (v : Value) (cs : List Value) (n : Nat) (t : Int) (wv : Value) (b c : Nat) (hs : a.eval s = v) (hx : a.eval x = .slice (some ⟨b, 0, none⟩) 1 c) (h : Que w v cs n) (hl : n ≤ 1000)
    (h0 : w.cell? ⟨b, 0, none⟩ = some (.int .i64 t)) (h1 : w.cell? ⟨b, 1, none⟩ = some wv) (hone : wv.oneCell' = true)
    (hk : ∀ v' w', Que w' v' (cs ++ [.int .i64 t, wv]) (n + 1) → w.grownBy w' v.ownBlock → (∀ g, v'.ownBlock = some g → v.ownBlock = some g ∨ w.heap.size ≤ g) → wpList Try.prog ops Q rest (a.put o.dst v') w') : wpList Try.prog ops Q (o :: rest) a w := by
  obtain ⟨i, hi, hz, hsz, hby⟩ := Try.infoReach
  obtain ⟨g, off, cap, rfl, q1, q2, q3, q4, q5, q6⟩ := h
  refine wpList_append_arg w hgd s x _ ho 66 i _ 2 32 Try.underlying67 hi hz hsz hby rfl (by omega) g off n cap cs hs q3 q5 ⟨b, 0, none⟩ 1 c [.int .i64 t, wv] hx rfl ?_ ?_ ?_ (by unfold maxLen; omega) (by omega) ?_ ?_
  · intro j u hj
    rw [Addr.add_lit, Nat.zero_add]
    match j with
    | 0 => injection hj with hj; rw [← hj]; exact h0
    | 1 => injection hj with hj; rw [← hj]; exact h1
    | j + 2 => simp at hj
  · intro u hu
    simp at hu
    rcases hu with rfl | rfl
    · rfl
    · exact hone
  · intro hr j hj
    have hj : j < 2 := hj
    rw [Nat.add_assoc]
    exact q6 _ (by omega)
  · intro hr
    have hw' : w.setCells g (off + n * 2) [.int .i64 t, wv] = (w.setCell ⟨g, off + n * 2, none⟩ (.int .i64 t)).setCell ⟨g, off + n * 2 + 1, none⟩ wv := rfl
    rw [hw']
    have hkg : Keep (fun k => k ≠ g) w ((w.setCell ⟨g, off + n * 2, none⟩ (.int .i64 t)).setCell ⟨g, off + n * 2 + 1, none⟩ wv) := ((Keep.refl _ _).set (p := ⟨g, off + n * 2, none⟩) (fun _ hh => hh rfl) _).set (p := ⟨g, off + n * 2 + 1, none⟩) (fun _ hh => hh rfl) _
    have c0 := (q6 (n * 2) (by omega)).1
    have c1 := (q6 (n * 2 + 1) (by omega)).1
    rw [← Nat.add_assoc] at c1
    have g0 : ((w.setCell ⟨g, off + n * 2, none⟩ (.int .i64 t)).setCell ⟨g, off + n * 2 + 1, none⟩ wv).cell? ⟨g, off + n * 2, none⟩ = some (.int .i64 t) :=
      (World.cell?_setCell_other _ _ _ _ (by intro e; injection e with _ e; omega)).trans (World.cell?_setCell_same' _ _ _ c0)
    have g1 : ((w.setCell ⟨g, off + n * 2, none⟩ (.int .i64 t)).setCell ⟨g, off + n * 2 + 1, none⟩ wv).cell? ⟨g, off + n * 2 + 1, none⟩ = some wv :=
      World.cell?_setCell_same' _ _ _ (by rw [World.cell?_setCell_other _ _ _ _ (by intro e; injection e with _ e; omega)]; exact c1)
    have hoth : ∀ j, j ≠ n * 2 → j ≠ n * 2 + 1 → ((w.setCell ⟨g, off + n * 2, none⟩ (.int .i64 t)).setCell ⟨g, off + n * 2 + 1, none⟩ wv).cell? ⟨g, off + j, none⟩ = w.cell? ⟨g, off + j, none⟩ := fun j hj hj2 =>
      (World.cell?_setCell_other _ _ _ _ (by intro e; injection e with _ e; omega)).trans (World.cell?_setCell_other _ _ _ _ (by intro e; injection e with _ e; omega))
    refine hk _ _ ⟨g, off, cap, rfl, hr, q2, by simp [q3]; omega, Nat.lt_of_lt_of_le q4 hkg.size, fun j u hj => ?_, fun j hj => ⟨?_, ?_⟩⟩ ⟨hkg.os, hkg.tape, hkg.output, hkg.size, fun k hk hne => hkg.block k hk (fun e => hne (by rw [e]; rfl))⟩ (fun g' hg' => .inl hg')
    · by_cases hjl : j < n * 2
      · rw [List.getElem?_append_left (by omega)] at hj
        rw [hoth j (by omega) (by omega)]
        exact q5 j u hj
      · rw [List.getElem?_append_right (by omega), q3] at hj
        have hj2 : j - n * 2 < 2 := (List.getElem?_eq_some_iff.1 hj).1
        obtain hjj | hjj : j = n * 2 ∨ j = n * 2 + 1 := by omega
        · subst hjj
          rw [Nat.sub_self] at hj
          have e : some (Value.int .i64 t) = some u := hj
          rw [← e]; exact g0
        · subst hjj
          rw [show n * 2 + 1 - n * 2 = 1 by omega] at hj
          have e : some wv = some u := hj
          rw [← e, ← Nat.add_assoc]; exact g1
    · by_cases e0 : j = n * 2
      · subst e0; rw [g0]; rfl
      · by_cases e1 : j = n * 2 + 1
        · subst e1; rw [← Nat.add_assoc, g1]; rfl
        · rw [hoth j e0 e1]; exact (q6 j hj).1
    · rw [World.frozen?_setCell, World.frozen?_setCell]
      exact (q6 j hj).2
  · intro hr v' w' hrow hg
    refine hk _ _ (Que.of_owns (by omega) hrow) ⟨hg.os, hg.tape, hg.output, hg.size, fun k hk _ => hg.block k hk (by simp)⟩ (fun g' hg' => .inr (World.ownsRow.lt hrow g' hg').1)
theorem Apt.appQ {w0 W W' : World} {l : List Itm} (h : Apt w0 W l) (m : Nat) {v v' : Value} {cs cs' : List Value} {n n' : Nat} (hn : l[m]? = some (iQ v cs n)) (hA : Que W' v' cs' n') (hg : W.grownBy W' v.ownBlock)
    (ho : ∀ g, v'.ownBlock = some g → v.ownBlock = some g ∨ W.heap.size ≤ g) : Apt w0 W' (l.set m (iQ v' cs' n')) :=
  h.upd m _ _ hn (Keep.of_grown hg) hA (fun k hk => ⟨ho k hk, hA.lt k hk⟩) (iQ_st _ _ _)

/-! ### the words -/
def iV (B : Nat) (vs : List Value) (ws : List (List Int)) : Itm := ⟨fun k => ∃ v, v ∈ vs ∧ v.ownBlock = some k, fun W => vs.length = ws.length ∧ ∀ i v, vs[i]? = some v → AppI B W v (rw0 ws i)⟩
theorem iV_st (B : Nat) (vs : List Value) (ws : List (List Int)) : (iV B vs ws).St := by
  rintro W W' ⟨h1, h2⟩ hk
  exact ⟨h1, fun i v hi => (h2 i v hi).keep hk (fun g e => ⟨v, List.mem_of_getElem? hi, e⟩)⟩
/-- The row at the head of the list becomes the last of the words at place n behind it. -/
theorem Apt.addV {w0 W : World} {l : List Itm} {B : Nat} {v : Value} {xs : List Int} {vs : List Value} {ws : List (List Int)} (h : Apt w0 W (iI B v xs :: l)) (n : Nat) (hn : l[n]? = some (iV B vs ws)) : Apt w0 W (l.set n (iV B (vs ++ [v]) (ws ++ [xs]))) := by
  have hm := h.merge n hn
  have hnl : n < l.length := (List.getElem?_eq_some_iff.1 hn).1
  have hv : AppI B W v xs := h.p 0 _ rfl
  obtain ⟨h1, h2⟩ : vs.length = ws.length ∧ ∀ i v, vs[i]? = some v → AppI B W v (rw0 ws i) := h.p (n + 1) _ hn
  have := hm.upd n ((iI B v xs).both (iV B vs ws)) (iV B (vs ++ [v]) (ws ++ [xs])) (by simp [hnl]) (Keep.refl _ W) ⟨by simp [h1], fun i u hi => ?_⟩ (fun k hk => ?_) (iV_st _ _ _)
  · rwa [List.set_set] at this
  · rcases Nat.lt_trichotomy i vs.length with hlt | rfl | hgt
    · rw [List.getElem?_append_left hlt] at hi
      rw [rw0_snoc_lt _ _ (by omega)]
      exact h2 i u hi
    · rw [List.getElem?_append_right (Nat.le_refl _), Nat.sub_self] at hi
      injection hi with hi
      subst hi
      rw [h1, rw0_snoc]
      exact hv
    · have := (List.getElem?_eq_some_iff.1 hi).1
      simp at this
      omega
  · obtain ⟨u, hu, e⟩ := hk
    have hd : ((iI B v xs).both (iV B vs ws)).D k := by
      rw [List.mem_append, List.mem_singleton] at hu
      rcases hu with hu | rfl
      · exact .inr ⟨u, hu, e⟩
      · exact .inl e
    exact ⟨.inl hd, (hm.d n _ (by simp [hnl]) k hd).2⟩

/-! ### the greatest number for which a word holds -/
open Classical in
noncomputable def topK (R : Nat → Prop) : Nat → Nat
  | 0 => 0
  | n + 1 => if R (n + 1) then n + 1 else topK R n
theorem topK_ge {R : Nat → Prop} : ∀ n k, k ≤ n → R k → k ≤ topK R n
  | 0, k, hk, _ => by omega
  | n + 1, k, hk, h => by
    unfold topK
    split
    · exact hk
    · rename_i hn
      by_cases e : k = n + 1
      · subst e; exact absurd h hn
      · exact topK_ge n k (by omega) h
theorem topK_is {R : Nat → Prop} : ∀ n k, k ≤ n → R k → R (topK R n) ∧ topK R n ≤ n
  | 0, k, hk, h => by
    obtain rfl : k = 0 := by omega
    exact ⟨h, Nat.le_refl _⟩
  | n + 1, k, hk, h => by
    unfold topK
    split
    · rename_i hn; exact ⟨hn, Nat.le_refl _⟩
    · rename_i hn
      by_cases e : k = n + 1
      · subst e; exact absurd h hn
      · obtain ⟨h1, h2⟩ := topK_is n k (by omega) h
        exact ⟨h1, by omega⟩

/-! ### the machine stays while its box is written -/
theorem RdM.box {w w' : World} {vn vf : Value} {m : Mc} {g : Nat} (h : RdM w vn vf m) (hk : Keep (fun k => k ≠ g) w w') (hg : ∀ i u, w.cell? ⟨g, i, none⟩ = some u → u = .slice none 0 0) : RdM w' vn vf m := by
  obtain ⟨b, off, c, b2, off2, c2, h1, h2, h3, h4, h5, h6, h7, h8, h9⟩ := h
  have hp := h9.pos
  have hb : b ≠ g := by
    rintro rfl
    obtain ⟨b3, off3, c3, q1, -⟩ := h7 0 hp
    have := hg _ _ q1
    injection this with e
    cases e
  have hb2 : b2 ≠ g := by
    rintro rfl
    have := hg _ _ (h8 0 hp)
    cases this
  refine ⟨b, off, c, b2, off2, c2, h1, h2, Nat.lt_of_lt_of_le h3 hk.size, Nat.lt_of_lt_of_le h4 hk.size, h5, h6, fun s hs => ?_, fun s hs => (hk.cell (p := ⟨b2, _, none⟩) h4 hb2).trans (h8 s hs), h9⟩
  obtain ⟨b3, off3, c3, q1, q2, q3, q4⟩ := h7 s hs
  have hb3 : b3 ≠ g := by
    rintro rfl
    have := hg _ _ (q4 0 (by omega))
    cases this
  exact ⟨b3, off3, c3, (hk.cell (p := ⟨b, _, none⟩) h3 hb).trans q1, Nat.lt_of_lt_of_le q2 hk.size, q3, fun v hv => (hk.cell (p := ⟨b3, _, none⟩) q2 hb3).trans (q4 v hv)⟩
end Go.Proofs.Ytdiedghaoleblaa
/- The walk of the program's ShortestDifference. Printed by gensdi.py. -/
namespace Go.Proofs.Ytdiedghaoleblaa
open Go.RowKit Go.Maps
attribute [local go_sem] evalOf

set_option maxHeartbeats 2000000 in
theorem bneF_any (x y : Bool) (w : World) : Calls Try.prog 44 #[.bool x, .bool y] w (Ret (.bool (bne x y)) w) := by
  go_enter Try.func44, Try.ntmps44
  go_wp2
  go_ret
  exact ⟨by cases x <;> cases y <;> rfl, Ext.refl w⟩
theorem SdNo.len {m : Mc} {k : Nat} (h : SdNo m k) : k ≤ (sdK m k).st.length := by
  rcases Nat.eq_zero_or_pos k with h0 | h0
  · omega
  · obtain ⟨h1, -⟩ := h (k - 1) (by omega)
    have := (sdK_at m (i := k) (by omega) h1).1
    omega
def RS.mc9 (D : List Nat) (m : Mc) : RS := ⟨D, fun _ v W => ∃ vn vf, v = .agg #[vn, vf] ∧ RdM W vn vf m, fun _ _ _ _ ⟨vn, vf, h1, h2⟩ hx => ⟨vn, vf, h1, h2.ext hx⟩⟩
/-- A new box of a machine. -/
def RS.mb9 (D : List Nat) (B : Nat) : RS := ⟨D, fun _ v W => ∃ g, v = .pointer (some ⟨g, 0, none⟩) ∧ B ≤ g ∧ W.heap[g]? = some (.cells #[.slice none 0 0, .slice none 0 0] 54 (0, 0)),
  fun _ _ _ _ ⟨g, h1, h2, h3⟩ hx => ⟨g, h1, h2, (hx.block g (Array.getElem?_eq_some_iff.1 h3).1).trans h3⟩⟩
theorem mb9_nil {W : World} {g i : Nat} {T : TypeId} {p : Nat × Nat} {u : Value} (h : W.heap[g]? = some (.cells #[.slice none 0 0, .slice none 0 0] T p)) (hu : W.cell? ⟨g, i, none⟩ = some u) : u = .slice none 0 0 := by
  simp [World.cell?, h] at hu
  match i, hu with
  | 0, hu => simpa using hu.symm
  | 1, hu => simpa using hu.symm
  | i + 2, hu => simp at hu
theorem SdX.wd {a b : Au} {ok : Bool} {ws : List Int} (h : SdX a b ok ws) : allR ws 0 5 = true ∧ ws.length ≤ 100 := by
  unfold SdX at h
  split at h
  · rename_i hv
    have hm := prM_ok bne (totM_ok hv.1) (totM_ok hv.2) (pr2_le hv.1 hv.2)
    cases ok with
    | true =>
      obtain ⟨h1, h2, -⟩ := h.sound hm
      exact ⟨h1, Nat.le_trans h2 hm.le⟩
    | false =>
      rcases h with ⟨h, -⟩ | ⟨-, rfl, -⟩
      · cases h
      · exact ⟨rfl, by simp⟩
  · obtain ⟨-, rfl⟩ := h
    exact ⟨rfl, by simp⟩
theorem SdX.i64 {a b : Au} {ok : Bool} {ws : List Int} (h : SdX a b ok ws) : ∀ i, i < ws.length → I64 (at0 ws i) := fun i hi => by
  have := allR_at h.wd.1 hi
  unfold I64
  omega
theorem OwnRes.intsS {xs : List Int} {w w' : World} {v : Value} (h : OwnRes xs w (.returned v) w') (hb : ∀ i, i < xs.length → I64 (at0 xs i)) : SInts w' v xs := by
  obtain ⟨A, c, b, m, f, h1, h2, h3, h4, h5, h6⟩ := h
  injection h1 with h1
  subst h1
  exact SInts.own h2 h3 h5 hb
theorem OwnRes.formS {xs : List Int} {w w' : World} {v : Value} (h : OwnRes xs w (.returned v) w') : ∃ A c, v = .slice A xs.length c := by
  obtain ⟨A, c, b, m, f, h1, -⟩ := h
  injection h1 with h1
  exact ⟨A, c, h1⟩
theorem OwnRes.extS {xs : List Int} {w w' : World} {e : Ending} (h : OwnRes xs w e w') : Ext w w' := by
  obtain ⟨A, c, b, m, f, h1, h2, h3, h4, h5, h6⟩ := h
  exact h6
theorem OwnRes.frS {xs : List Int} {w w1 w' : World} {e : Ending} (h : OwnRes xs w1 e w') (hx : Ext w w1) : OwnRes xs w e w' := by
  obtain ⟨A, c, b, m, f, h1, h2, h3, h4, h5, h6⟩ := h
  exact ⟨A, c, b, m, f, h1, h2, h3, Nat.le_trans hx.size h4, h5, hx.trans h6⟩
/-- What the program's ShortestDifference hands back. -/
def SdGotI (a b : Au) (w : World) (e : Ending) (w' : World) : Prop := ∃ ok ws v, SdX a b ok ws ∧ e = .returned (.tuple #[v, .bool ok]) ∧ OwnRes ws w (.returned v) w'
theorem SdGotI.no {a b : Au} {w w' : World} (h : ¬ (vAut a = true ∧ vAut b = true)) (hx : Ext w w') : SdGotI a b w (.returned (.tuple #[.slice none 0 0, .bool false])) w' :=
  ⟨false, [], .slice none 0 0, by rw [SdX, if_neg h]; exact ⟨rfl, rfl⟩, rfl, OwnRes.nil_ rfl hx⟩
theorem AptSi.start {u6 w1 : World} (hM : MapB w1 u6.heap.size [0]) (hx : Ext u6 w1) : Apt u6 (w1.alloc (.cells #[.int .i64 0, .slice none 0 0] 66))
    [iQ (.slice (some ⟨w1.heap.size, 0, none⟩) 1 1) [.int .i64 0, .slice none 0 0] 1, iV u6.heap.size [.slice none 0 0] [[]], iM u6.heap.size [0]] := by
  have h1 := (Apt.nil_ (Ext.refl u6)).push (iM u6.heap.size [0]) hx hM (fun k hk => by have hk : k = u6.heap.size := hk; subst hk; exact ⟨Nat.le_refl _, hM.lt⟩) (iM_st _ _)
  have h2 := h1.push (iV u6.heap.size [.slice none 0 0] [[]]) (Ext.refl w1) ⟨rfl, fun i v hi => by
    match i with
    | 0 => injection hi with hi; subst hi; exact AppI.nil_ _ _
    | i + 1 => simp at hi⟩ (fun k hk => by
    obtain ⟨v, hv, e⟩ := hk
    rw [List.mem_singleton] at hv
    subst hv
    cases e) (iV_st _ _ _)
  refine h2.push _ ((Ext.refl w1).alloc _) (Que.of_owns (B := 0) (by omega) (World.ownsRow_lit (size := 2) (e := 66) w1 #[.int .i64 0, .slice none 0 0] 1 (Nat.zero_le _) (by unfold maxLen; omega) rfl)) (fun k hk => ?_) (iQ_st _ _ _)
  have hk : some w1.heap.size = some k := hk
  injection hk with hk
  subst hk
  simp
/-- k pairs have been taken out of the queue q. -/
def SiR (P : Mc) (u6 : World) (k : Nat) (q : Value) (wr : World) : Prop := ∃ vs, SdNo P k ∧ Apt u6 wr [iQ q (qF ((sdK P k).st.drop k) (vs.drop k)) ((sdK P k).st.length - k), iV u6.heap.size vs (sdK P k).ws, iM u6.heap.size (sdK P k).st]
theorem SiR.le {P : Mc} (hP : MOk P) {u6 : World} {k : Nat} {q : Value} {wr : World} (h : SiR P u6 k q wr) : k ≤ 100 := by
  obtain ⟨vs, h, -⟩ := h
  exact h.le hP
theorem wf9 {t : Nat} (h : t ≤ 100000) : (Lit.int .i64 (t : Int)).wf = true := by
  have h1 : IntKind.i64.min = -9223372036854775808 := by decide
  have h2 : IntKind.i64.max = 9223372036854775807 := by decide
  simp only [Lit.wf, Bool.and_eq_true, decide_eq_true_eq]
  omega
set_option maxRecDepth 100000 in
set_option maxHeartbeats 32000000 in
theorem ShortestDifferenceI_any (vn vf vn2 vf2 : Value) (a b : Au) (w : World) (hN : SRows w vn a.next) (hF : SInts w vf a.final) (hN2 : SRows w vn2 b.next) (hF2 : SInts w vf2 b.final) :
    Calls Try.prog 14 #[.agg #[vn, vf], .agg #[vn2, vf2]] w (SdGotI a b w) := by
  have HN := hide hN
  have HF := hide hF
  have HN2 := hide hN2
  have HF2 := hide hF2
  obtain ⟨A1, c1, rfl, -⟩ := hN.form
  obtain ⟨A2, c2, rfl, -⟩ := hF.form
  obtain ⟨A3, c3, rfl, -⟩ := hN2.form
  obtain ⟨A4, c4, rfl, -⟩ := hF2.form
  clear hN hF hN2 hF2
  obtain ⟨w0, hw0⟩ : ∃ w0, w0 = (w.alloc (.cells #[.slice A1 a.next.length c1, .slice A2 a.final.length c2] 26)).alloc (.cells #[.slice A3 b.next.length c3, .slice A4 b.final.length c4] 26) := ⟨_, rfl⟩
  have HX0 := hide (show Ext w w0 by rw [hw0]; exact ((Ext.refl w).alloc _).alloc _)
  have k0 : w0.cell? ⟨w.heap.size, 0, none⟩ = some (.slice A1 a.next.length c1) := by rw [hw0]; go_simp
  have k1 : w0.cell? ⟨w.heap.size, 1, none⟩ = some (.slice A2 a.final.length c2) := by rw [hw0]; go_simp
  have k2 : w0.cell? ⟨w.heap.size + 1, 0, none⟩ = some (.slice A3 b.next.length c3) := by rw [hw0]; go_simp
  have k3 : w0.cell? ⟨w.heap.size + 1, 1, none⟩ = some (.slice A4 b.final.length c4) := by rw [hw0]; go_simp
  have ks : w.heap.size < w0.heap.size := by rw [hw0]; simp; omega
  have kt : w.heap.size + 1 < w0.heap.size := by rw [hw0]; simp
  go_enter Try.func14, Try.ntmps14
  go_wp2_with fail
  rw [← hw0]
  clear hw0
  refine (ValidAutomatonI_any _ _ a _ (HN.out.ext HX0.out) (HF.out.ext HX0.out)).mono ?_
  rintro e w1 ⟨rfl, hx1⟩
  have k0 := (hx1.cells _ _ ks).trans k0
  have k1 := (hx1.cells _ _ ks).trans k1
  have k2 := (hx1.cells _ _ kt).trans k2
  have k3 := (hx1.cells _ _ kt).trans k3
  have ks := Nat.lt_of_lt_of_le ks hx1.size
  have kt := Nat.lt_of_lt_of_le kt hx1.size
  have HX1 := hide (HX0.out.trans hx1)
  clear hx1
  cases hva : vAut a with
  | false =>
    have HNO := hide (show ¬ (vAut a = true ∧ vAut b = true) by rw [hva]; simp)
    clear hva
    go_wp2
    go_ret2
    exact SdGotI.no HNO.out HX1.out
  | true =>
    have HVA := hide hva
    clear hva
    go_wp2_with fail
    refine (ValidAutomatonI_any _ _ b _ (HN2.out.ext HX1.out) (HF2.out.ext HX1.out)).mono ?_
    rintro e w2 ⟨rfl, hx2⟩
    have k0 := (hx2.cells _ _ ks).trans k0
    have k1 := (hx2.cells _ _ ks).trans k1
    have k2 := (hx2.cells _ _ kt).trans k2
    have k3 := (hx2.cells _ _ kt).trans k3
    have ks := Nat.lt_of_lt_of_le ks hx2.size
    have kt := Nat.lt_of_lt_of_le kt hx2.size
    have HX2 := hide (HX1.out.trans hx2)
    clear hx2
    cases hvb : vAut b with
    | false =>
      have HNO := hide (show ¬ (vAut a = true ∧ vAut b = true) by rw [hvb]; simp)
      clear hvb
      go_wp2
      go_ret2
      exact SdGotI.no HNO.out HX2.out
    | true =>
      have HVB := hide hvb
      clear hvb
      have HLE := hide (pr2_le HVA.out HVB.out)
      go_upto_region 3 with fail
      refine wp_region_relT (n := 6) (ts := [6]) (sp := [RS.q [] (fun _ => .agg #[.slice A1 a.next.length c1, .slice A2 a.final.length c2]), RS.mc9 [0] (totM a), RS.q [] (fun _ => .agg #[.slice A3 b.next.length c3, .slice A4 b.final.length c4]), RS.mc9 [2] (totM b), RS.mc9 [1, 3] (prM bne (totM a) (totM b)), RS.mb9 [] w2.heap.size])
        (fun W => Ext w2 W) (by kernel_rfl) (relOK (D := [[], [0], [], [2], [1, 3], []]) rfl (by kernel_rfl) rfl) (by kernel_rfl) (fun W W' h hx => h.trans hx) ((Ext.refl w2).drew) ?steps ?ends
      case steps =>
        refine ⟨?_, ?_, ?_, ?_, ?_, ?_, trivial⟩
        · intro V τ W hC hf ht h0
          have s2 : τ 2 = .pointer (some ⟨w.heap.size, 0, none⟩) := h0 2 (by kernel_rfl)
          have c0 := (hC.cells _ _ ks).trans k0
          have c1' := (hC.cells _ _ ks).trans k1
          refine Does.val (w' := W) (v := .agg #[.slice A1 a.next.length c1, .slice A2 a.final.length c2]) ?_ ⟨Ext.refl W, rfl⟩
          clear h0 ht hf
          go_simp
        · intro V τ W hC hf ht h0
          have f0 : V 0 = .agg #[.slice A1 a.next.length c1, .slice A2 a.final.length c2] := hf 0 (show 0 ∈ [0] by decide)
          have s20 := (ht 0 (show 0 ∈ [0] by decide) 20 rfl).trans f0
          have hC : Ext w2 W := hC
          refine Does.call (w' := W) (f := 37) (args := #[.agg #[.slice A1 a.next.length c1, .slice A2 a.final.length c2]]) (by go_simp; all_goals (first | exact rfl | (apply And.intro <;> exact rfl))) ?_
          refine (machineOf_any (.slice A1 a.next.length c1) (.slice A2 a.final.length c2) a _ (HN.out.ext (HX2.out.trans hC)) (HF.out.ext (HX2.out.trans hC)) HVA.out).mono ?_
          intro e wa hnm
          obtain ⟨na, fa, rfl, hMa, hxa⟩ := RdM.mach HVA.out hnm
          exact ⟨_, rfl, hxa, na, fa, rfl, hMa⟩
        · intro V τ W hC hf ht h0
          have s3 : τ 3 = .pointer (some ⟨w.heap.size + 1, 0, none⟩) := h0 3 (by kernel_rfl)
          have c0 := (hC.cells _ _ kt).trans k2
          have c1' := (hC.cells _ _ kt).trans k3
          refine Does.val (w' := W) (v := .agg #[.slice A3 b.next.length c3, .slice A4 b.final.length c4]) ?_ ⟨Ext.refl W, rfl⟩
          clear h0 ht hf
          go_simp
        · intro V τ W hC hf ht h0
          have f2 : V 2 = .agg #[.slice A3 b.next.length c3, .slice A4 b.final.length c4] := hf 2 (show 2 ∈ [2] by decide)
          have s22 := (ht 2 (show 2 ∈ [2] by decide) 22 rfl).trans f2
          have hC : Ext w2 W := hC
          refine Does.call (w' := W) (f := 37) (args := #[.agg #[.slice A3 b.next.length c3, .slice A4 b.final.length c4]]) (by go_simp; all_goals (first | exact rfl | (apply And.intro <;> exact rfl))) ?_
          refine (machineOf_any (.slice A3 b.next.length c3) (.slice A4 b.final.length c4) b _ (HN2.out.ext (HX2.out.trans hC)) (HF2.out.ext (HX2.out.trans hC)) HVB.out).mono ?_
          intro e wa hnm
          obtain ⟨na, fa, rfl, hMa, hxa⟩ := RdM.mach HVB.out hnm
          exact ⟨_, rfl, hxa, na, fa, rfl, hMa⟩
        · intro V τ W hC hf ht h0
          have f1 := hf 1 (show 1 ∈ [1, 3] by decide)
          have s21 : τ 21 = V 1 := ht 1 (show 1 ∈ [1, 3] by decide) 21 rfl
          have f3 := hf 3 (show 3 ∈ [1, 3] by decide)
          have s23 : τ 23 = V 3 := ht 3 (show 3 ∈ [1, 3] by decide) 23 rfl
          obtain ⟨n1, g1, z1, hM1⟩ := (show ∃ vn vf, V 1 = .agg #[vn, vf] ∧ RdM W vn vf (totM a) from f1)
          obtain ⟨n2, g2, z2, hM2⟩ := (show ∃ vn vf, V 3 = .agg #[vn, vf] ∧ RdM W vn vf (totM b) from f3)
          rw [z1] at s21
          rw [z2] at s23
          refine Does.call (w' := W) (f := 43) (args := #[.agg #[n1, g1], .agg #[n2, g2], .func (.func 44) #[] #[]]) (by go_simp; all_goals (first | exact rfl | (apply And.intro <;> exact rfl))) ?_
          refine (with_any n1 g1 n2 g2 (totM a) (totM b) 44 bne _ hM1 hM2 HLE.out (fun args W => callFunc_body Try.func44 (by kernel_rfl) (by kernel_rfl) args W) (hide (fun x y W => bneF_any x y W))).mono ?_
          rintro e wp ⟨np, fp, rfl, hMp, hxp⟩
          exact ⟨_, rfl, hxp, np, fp, rfl, hMp⟩
        · intro V τ W hC hf ht h0
          have hC : Ext w2 W := hC
          refine Does.val (w' := W.alloc (.cells #[.slice none 0 0, .slice none 0 0] 54)) (v := .pointer (some ⟨W.heap.size, 0, none⟩)) (by go_simp) ⟨(Ext.refl W).alloc _, W.heap.size, rfl, hC.size, World.alloc_heap_new W _⟩
      case ends =>
        intro V W hC hf
        have e0 : V 0 = .agg #[.slice A1 a.next.length c1, .slice A2 a.final.length c2] := hf 0 (by omega)
        have e1 := hf 1 (by omega)
        have e2 : V 2 = .agg #[.slice A3 b.next.length c3, .slice A4 b.final.length c4] := hf 2 (by omega)
        have e3 := hf 3 (by omega)
        have e4 := hf 4 (by omega)
        have e5 := hf 5 (by omega)
        clear hf
        obtain ⟨vn, vf, e4, hMP⟩ := (show ∃ vn vf, V 4 = .agg #[vn, vf] ∧ RdM W vn vf (prM bne (totM a) (totM b)) from e4)
        obtain ⟨q6, e5, hq6, hg6⟩ := (show ∃ g, V 5 = .pointer (some ⟨g, 0, none⟩) ∧ w2.heap.size ≤ g ∧ W.heap[g]? = some (.cells #[.slice none 0 0, .slice none 0 0] 54 (0, 0)) from e5)
        obtain ⟨p1, o1, d1, p2, o2, d2, rfl, rfl, -⟩ := id hMP
        simp only [List.take_succ_cons, List.take_zero, putAll, Act.put, List.setIfInBounds_toArray, List.set_cons_succ, List.set_cons_zero, Nat.reduceAdd, e0, e2, e4, e5]
        simp only [nths, nth1]
        have HMP := hide hMP
        have HXW := hide (show Ext w2 W from hC)
        clear e0 e1 e2 e3 e4 e5 hMP hC
        have hq6l : q6 < W.heap.size := (Array.getElem?_eq_some_iff.1 hg6).1
        have zz0 : W.cell? ⟨q6, 0, none⟩ = some (.slice none 0 0) := by simp [World.cell?, hg6]
        have zz1 : W.cell? ⟨q6, 1, none⟩ = some (.slice none 0 0) := by simp [World.cell?, hg6]
        have yy0 : W.frozen? ⟨q6, 0, none⟩ = false := by simp [World.frozen?, hg6]
        have yy1 : W.frozen? ⟨q6, 1, none⟩ = false := by simp [World.frozen?, hg6]
        have HOTH := hide (fun (i : Nat) u (h : W.cell? ⟨q6, i, none⟩ = some u) => mb9_nil hg6 h)
        clear hg6
        go_upto_region 4 with fail
        obtain ⟨u6, hu6⟩ : ∃ x, x = (W.setCell ⟨q6, 0, none⟩ (.slice (some ⟨p1, o1, none⟩) (prM bne (totM a) (totM b)).nx.length d1)).setCell ⟨q6, 1, none⟩ (.slice (some ⟨p2, o2, none⟩) (prM bne (totM a) (totM b)).nx.length d2) := ⟨_, rfl⟩
        have hk6 : Keep (fun k => k ≠ q6) W u6 := by rw [hu6]; exact ((Keep.refl _ _).set (p := ⟨q6, 0, none⟩) (fun _ hh => hh rfl) _).set (p := ⟨q6, 1, none⟩) (fun _ hh => hh rfl) _
        have HX6 := hide (show Ext w u6 from HX2.out.trans (show Ext w2 u6 by rw [hu6]; exact (HXW.out.set (p := ⟨q6, 0, none⟩) hq6 _).set (p := ⟨q6, 1, none⟩) hq6 _))
        have x0 : u6.cell? ⟨q6, 0, none⟩ = some (.slice (some ⟨p1, o1, none⟩) (prM bne (totM a) (totM b)).nx.length d1) := by rw [hu6]; exact (World.cell?_setCell_other _ _ _ _ (by intro e; injection e with e1 e2; omega)).trans (World.cell?_setCell_same' _ _ _ (by rw [zz0]; rfl))
        have x1 : u6.cell? ⟨q6, 1, none⟩ = some (.slice (some ⟨p2, o2, none⟩) (prM bne (totM a) (totM b)).nx.length d2) := by rw [hu6]; exact World.cell?_setCell_same' _ _ _ (by rw [World.cell?_setCell_other _ _ _ _ (by intro e; injection e with e1 e2; omega), zz1]; rfl)
        have xs : q6 < u6.heap.size := Nat.lt_of_lt_of_le hq6l hk6.size
        have hMP := RdM.box HMP.out hk6 (fun i u h => HOTH.out i u h)
        rw [← hu6]
        clear hu6 hk6 zz0 zz1 yy0 yy1 hq6 hq6l HXW HMP HOTH k0 k1 k2 k3 ks kt
        obtain ⟨P, hP⟩ : ∃ P, P = prM bne (totM a) (totM b) := ⟨_, rfl⟩
        rw [← hP] at x0 x1 hMP ⊢
        have HP := hide hP
        clear hP
        obtain ⟨bb1, oo1, dd1, bb2, oo2, dd2, hv1, hv2, hb1, hb2, -, -, hR, hFi, hPO⟩ := hMP
        injection hv1 with hv1 _ hv3
        injection hv1 with hv1
        injection hv1 with hv1 hv4 _
        injection hv2 with hv2 _ hv5
        injection hv2 with hv2
        injection hv2 with hv2 hv6 _
        subst hv1 hv2 hv3 hv4 hv5 hv6
        have HR := hide hR
        have HFI := hide hFi
        have HPO := hide hPO
        have hpl := hPO.le
        have X0 := hide x0
        have X1 := hide x1
        clear hR hFi hPO x0 x1
        obtain ⟨wM, hrun, hMM, hgM⟩ := (MapB.made u6).put (x := 0) (by simp) (by decide)
        have hg2 := (World.grownBy_alloc u6 (.map #[] 0) (some u6.heap.size)).trans hgM
        have hxM : Ext u6 wM := ⟨hg2.os, hg2.tape, hg2.output, hg2.size, fun i hi => hg2.block i hi (fun e => by injection e with e; omega)⟩
        have H0 := hide (AptSi.start hMM hxM)
        have HXM := hide hxM
        clear hgM hg2 hMM hxM
        go_wp2_with fail
        rw [run_makeMap]
        go_upto_region 6 with fail
        go_loopw [8] (fun q wr => ∃ k, SiR P u6 k q wr) (fun q wr => 200 - topK (fun k => SiR P u6 k q wr) 100)
        case atStart => exact ⟨0, [.slice none 0 0], fun j hj => absurd hj (by omega), H0.out⟩
        case round =>
          obtain ⟨k0, hr0⟩ := hrel
          obtain ⟨k, hkd⟩ : ∃ k, k = topK (fun k => SiR P u6 k u8 wr) 100 := ⟨_, rfl⟩
          obtain ⟨hK, -⟩ := topK_is (R := fun k => SiR P u6 k u8 wr) 100 k0 (SiR.le HPO.out hr0) hr0
          rw [← hkd] at hK
          have HKD := hide hkd
          obtain ⟨vs, hno, hA⟩ := hK
          clear hr0 hkd
          obtain ⟨W0, hW0⟩ : ∃ W0, W0 = wr := ⟨wr, rfl⟩
          subst hW0
          have HNO := hide hno
          have hSI := sdK_inv HPO.out k
          have HSI := hide hSI
          have hkl := hno.len
          obtain ⟨hwl, hsl, hwls, hwi, hsi⟩ := hSI.words HPO.out
          have hlen := hSI.len
          obtain ⟨n, hn⟩ : ∃ n, n = (sdK P k).st.length - k := ⟨_, rfl⟩
          rw [← hn] at hA
          have HA := hide hA
          have HN0 := hide hn
          have hQ : Que W0 u8 (qF ((sdK P k).st.drop k) (vs.drop k)) n := hA.p 0 _ rfl
          obtain ⟨hvl, hvs⟩ : vs.length = (sdK P k).ws.length ∧ ∀ i v, vs[i]? = some v → AppI u6.heap.size W0 v (rw0 (sdK P k).ws i) := hA.p 1 _ rfl
          obtain ⟨g, off, cap, hu8, hnc, hcm, -, hgl, hqc, -⟩ := id hQ
          subst hu8
          have hx06 := hA.ext
          have HX06 := hide hx06
          have hs06 := hx06.size
          have x0 := (hx06.cells _ _ xs).trans X0.out
          have x1 := (hx06.cells _ _ xs).trans X1.out
          have xsW : q6 < W0.heap.size := by omega
          have hb1W : p1 < W0.heap.size := by omega
          have hb2W : p2 < W0.heap.size := by omega
          clear hA hno hSI hQ hx06
          by_cases hnp : 0 < n
          · have hnI : (0 : Int) < n := by omega
            have hkS : k < (sdK P k).st.length := by omega
            clear hn
            have hkv : k < vs.length := by omega
            obtain ⟨q0, q1⟩ := qF_head (st := (sdK P k).st) (vs := vs) hkS hkv
            have z0 := hqc 0 _ q0
            have z1 := hqc 1 _ q1
            obtain ⟨s, hs⟩ : ∃ s : Nat, s = (at0 (sdK P k).st k).toNat := ⟨_, rfl⟩
            have hsr := HSI.out.rg k hkS
            have hse : at0 (sdK P k).st k = s := by omega
            have hsN : s < P.nx.length := by omega
            have hsI : (s : Int) < P.nx.length := by omega
            obtain ⟨vk, hvk⟩ : ∃ vk, vk = vs.getD k (.bool false) := ⟨_, rfl⟩
            have hvk2 : vs[k]? = some vk := by rw [hvk, getD_lt _ _ hkv, List.getElem?_eq_getElem hkv]
            rw [hse, Nat.add_zero] at z0
            rw [← hvk] at z1
            obtain ⟨wk, hwk⟩ : ∃ wk, wk = rw0 (sdK P k).ws k := ⟨_, rfl⟩
            have hAK : AppI u6.heap.size W0 vk wk := by rw [hwk]; exact hvs k vk hvk2
            have hwkl : wk.length ≤ 100 := by rw [hwk]; exact hwls k (by omega)
            have hwkI : ∀ j, j < wk.length → I64 (at0 wk j) := by rw [hwk]; exact hwi k (by omega)
            have HWI := hide hwkI
            have HSW := hide (hAK.sints (by omega) hwkI)
            obtain ⟨Ak, ck, rfl, -⟩ := hAK.form
            have f1 := (HX06.out.cells _ _ hb2).trans (HFI.out s hsN)
            have HS := hide hs
            have HWK := hide hwk
            have HVK := hide hvk2
            have HVL := hide hvl
            clear hvs hqc q0 q1 hs hwk hvk hvk2 hsr hse hwls hwi hsi hvl hAK hwkI
            have H1 := hide (HA.out.newC [.int .i64 (s : Int), .slice Ak wk.length ck] 66 rfl)
            go_upto_region 9 with fail
            obtain ⟨W1, hW1⟩ : ∃ x, x = W0.alloc (.cells #[.int .i64 (s : Int), .slice Ak wk.length ck] 66) := ⟨_, rfl⟩
            obtain ⟨b9, hb9⟩ : ∃ x, x = W0.heap.size := ⟨_, rfl⟩
            have hx1 : Ext W0 W1 := by rw [hW1]; exact (Ext.refl W0).alloc _
            have H1 := hide (show Apt u6 W1 [iC b9 [.int .i64 (s : Int), .slice Ak wk.length ck], iQ (.slice (some ⟨g, off, none⟩) n cap) (qF ((sdK P k).st.drop k) (vs.drop k)) n, iV u6.heap.size vs (sdK P k).ws, iM u6.heap.size (sdK P k).st] by rw [hW1, hb9]; exact H1.out)
            rw [← hW1, ← hb9]
            have x0 := (hx1.cells _ _ xsW).trans x0
            have x1 := (hx1.cells _ _ xsW).trans x1
            have f1 := (hx1.cells _ _ hb2W).trans f1
            have t0 := (H1.out.cellC 0 rfl 0 rfl).1
            have t1 := (H1.out.cellC 0 rfl 1 rfl).1
            have HSW := hide (HSW.out.ext hx1)
            have HX1 := hide (HX06.out.trans hx1)
            have hb9l : b9 < W1.heap.size := (H1.out.d 0 _ rfl b9 rfl).2
            have xsW := Nat.lt_of_lt_of_le xsW hx1.size
            clear hW1 hb9 hx1 z0 z1 HA
            cases hfin : mF P s with
            | true =>
              rw [hfin] at f1
              have HSDX := hide (show SdX a b true wk by
                rw [SdX, if_pos ⟨HVA.out, HVB.out⟩, ← HP.out]
                exact .inl ⟨rfl, k, hkS, by rw [← HS.out]; exact hfin, HWK.out, HNO.out⟩)
              clear hfin
              go_wp2_with fail
              refine (copied_any _ wk _ HSW.out).mono ?_
              intro e W3 hres
              obtain ⟨A9, c9, b', m', f', rfl, -⟩ := id hres
              have HRES := hide (hres.frS (HX6.out.trans HX1.out))
              clear hres
              go_wp2_with fail
              go_ret2
              exact ⟨true, wk, _, HSDX.out, rfl, HRES.out⟩
            | false =>
              rw [hfin] at f1
              have HF9 := hide (show mF P (at0 (sdK P k).st k).toNat = false by rw [← HS.out]; exact hfin)
              obtain ⟨b3, o3, c3, f2, hb3, hc3, f3⟩ := HR.out s hsN
              have f2 := (HX1.out.cells _ _ hb1).trans f2
              have HROW3 := hide f3
              clear hfin f3
              go_wp2_with fail
              go_loopw [8, 53] (fun q i wr => ∃ (u : Nat) (vs2 : List Value), i = .int .i64 u ∧ u ≤ 6 ∧ vs2[k]? = some (.slice Ak wk.length ck) ∧ Apt u6 wr [iC b9 [.int .i64 (s : Int), .slice Ak wk.length ck], iQ q (qF ((sdV P s wk (sdK P k) u).st.drop k) (vs2.drop k)) ((sdV P s wk (sdK P k) u).st.length - k), iV u6.heap.size vs2 (sdV P s wk (sdK P k) u).ws, iM u6.heap.size (sdV P s wk (sdK P k) u).st]) (fun q i _ => 6 - (intOf i).toNat)
              case atStart => exact ⟨0, vs, rfl, by omega, HVK.out, by rw [show (sdV P s wk (sdK P k) 0).st.length - k = n from HN0.out.symm]; exact H1.out⟩
              case round =>
                obtain ⟨u, vs2, rfl, hu, hvk3, hA⟩ := hrel
                obtain ⟨W2, hW2⟩ : ∃ W2, W2 = wr := ⟨wr, rfl⟩
                subst hW2
                obtain ⟨T, hT⟩ : ∃ T, T = sdV P s wk (sdK P k) u := ⟨_, rfl⟩
                rw [← hT] at hA
                have hinv := sdV_inv HPO.out HSI.out hkS u hu
                rw [← HS.out, ← HWK.out, ← hT] at hinv
                obtain ⟨hTI, hkT, hTx, hTw⟩ := hinv
                obtain ⟨hwl2, hsl2, -, -, -⟩ := hTI.words HPO.out
                have htlen := hTI.len
                obtain ⟨n2, hn2⟩ : ∃ n2, n2 = T.st.length - k := ⟨_, rfl⟩
                rw [← hn2] at hA
                have HA := hide hA
                have hQ : Que W2 u8 (qF (T.st.drop k) (vs2.drop k)) n2 := hA.p 1 _ rfl
                obtain ⟨hvl2, hvs2⟩ : vs2.length = T.ws.length ∧ ∀ i v, vs2[i]? = some v → AppI u6.heap.size W2 v (rw0 T.ws i) := hA.p 2 _ rfl
                have hAK := hvs2 k _ hvk3
                rw [hTw] at hAK
                have HSW2 := hide (hAK.sints (by omega) HWI.out)
                obtain ⟨g2, off2, cap2, hu8, hnc2, hcm2, -, -, -, -⟩ := id hQ
                subst hu8
                have hM : MapB W2 u6.heap.size T.st := hA.p 3 _ rfl
                have t1 := (hA.cellC 0 rfl 1 rfl).1
                have hb9W : b9 < W2.heap.size := (hA.d 0 _ rfl b9 rfl).2
                have hx06 := hA.ext
                have HX2' := hide hx06
                have hs26 := hx06.size
                have HT := hide hT
                have HN2T := hide hn2
                have HTW := hide hTw
                have HVK3 := hide hvk3
                have hkv2 : k < vs2.length := by omega
                have hvt : vs2.length = T.st.length := by omega
                have HQV := hide (show (T.st.drop k).length = (vs2.drop k).length by rw [List.length_drop, List.length_drop, hvt])
                clear hA hTI hQ hvs2 hAK hT hvk3 hx06 hn2 hTx hTw
                by_cases hul : u < 6
                · have huI : (u : Int) < 6 := by omega
                  obtain ⟨t, ht⟩ : ∃ t, t = mT P s u := ⟨_, rfl⟩
                  have f3 := (HX2'.out.cells _ _ hb3).trans (HROW3.out u hul)
                  rw [← ht] at f3
                  have htN : t < P.nx.length := by rw [ht]; exact HPO.out.lt hsN hul
                  have hwf : (Lit.int .i64 (t : Int)).wf = true := wf9 (by omega)
                  have HTD := hide ht
                  clear ht
                  by_cases hin : (t : Int) ∈ T.st
                  · have hlook : (Instr.lookup 64 (.map (some u6.heap.size)) (.int .i64 (t : Int)) false).run Try.prog W2 = .ok (.bool true) W2 := by rw [hM.look hwf]; simp [hin]
                    have HSTEP := hide (show sdV P s wk (sdK P k) (u + 1) = T by rw [sdV, ← HT.out, sdP, ← HTD.out, if_pos hin])
                    clear hM hin
                    go_wp2_with fail
                    go_roundw
                    case rel => exact ⟨u + 1, vs2, by go_num, by omega, HVK3.out, by rw [HSTEP.out, ← HN2T.out]; exact HA.out⟩
                    case measure => simp [intOf]; omega
                  · have hlook : (Instr.lookup 64 (.map (some u6.heap.size)) (.int .i64 (t : Int)) false).run Try.prog W2 = .ok (.bool false) W2 := by rw [hM.look hwf]; simp [hin]
                    have HSTEP := hide (show sdV P s wk (sdK P k) (u + 1) = ⟨T.st ++ [(t : Int)], T.ws ++ [wk ++ [(u : Int)]]⟩ by rw [sdV, ← HT.out, sdP, ← HTD.out, if_neg hin])
                    obtain ⟨W3, hrun, hM3, hg3⟩ := hM.put (by omega) hwf
                    have H3 := hide (HA.out.upd 3 _ (iM u6.heap.size (T.st ++ [(t : Int)])) rfl ((Keep.of_grown hg3).mono (fun k _ hk e => hk (by injection e with e; exact e.symm))) hM3 (fun k hk => ⟨.inl hk, by have hk : k = u6.heap.size := hk; subst hk; exact hM3.lt⟩) (iM_st _ _))
                    have t1 := (H3.out.cellC 0 rfl 1 rfl).1
                    have hb9W3 : b9 < W3.heap.size := (H3.out.d 0 _ rfl b9 rfl).2
                    have hk3 := (show ∀ i v, vs2[i]? = some v → AppI u6.heap.size W3 v (rw0 T.ws i) from (H3.out.p 2 _ rfl).2) k _ HVK3.out
                    rw [HTW.out] at hk3
                    have HSW3 := hide (hk3.sints (by omega) HWI.out)
                    clear hM hin hM3 hg3 hk3
                    go_wp2_with fail
                    refine (Clone_any _ wk _ HSW3.out).mono ?_
                    rintro e W4 ⟨v4, rfl, hA4, hx4⟩
                    have H4 := hide (H3.out.push (iI u6.heap.size v4 wk) hx4 (AppI.low9 hA4 H3.out.ext.size) (fun k hk => World.ownsRow.lt hA4 k hk) (iI_st _ _ _))
                    obtain ⟨A4', c4', rfl, -⟩ := hA4.form
                    have t1 := (hx4.cells _ _ hb9W3).trans t1
                    have HA4 := hide (AppI.low9 hA4 H3.out.ext.size)
                    have hs4 := H4.out.ext.size
                    clear hA4 hx4 hb9W3 f3 hrun hlook
                    have H5 := hide (H4.out.grow ((Ext.refl W4).alloc (.cells #[.int .i64 (u : Int)] 3)))
                    go_wp2_with (at_builtin; first
                      | (refine wpList_appIO _ rfl _ _ rfl u6.heap.size _ wk (u : Int) W4.heap.size 1 rfl rfl (H5.out.p 0 _ rfl) (by go_simp) (by omega) (by have := H5.out.ext.size; exact this) ?_; intro v6 W6 hA6 hg6 ho6; have H6 := hide (H5.out.appI 0 rfl hA6 hg6 ho6); obtain ⟨A6, c6, hv6, -⟩ := hA6.form; rw [show (wk ++ [(u : Int)]).length = wk.length + 1 by simp] at hv6; subst hv6; have H7 := hide (H6.out.grow ((Ext.refl W6).alloc (.cells #[.int .i64 (t : Int), .slice A6 (wk.length + 1) c6] 66))); clear hA6 hg6 ho6)
                      | (go_must (refine wpList_appQ _ rfl _ _ rfl _ _ n2 (t : Int) (.slice A6 (wk.length + 1) c6) W6.heap.size 1 rfl rfl (H7.out.p 2 _ rfl) (by have := HN2T.out; omega) (by go_simp) (by go_simp) rfl ?_); intro v8 W8 hQ8 hg8 ho8; have H8 := hide ((H7.out.addV 2 rfl).appQ 1 rfl hQ8 hg8 ho8); obtain ⟨g8, off8, cap8, hv8, -⟩ := id hQ8; subst hv8; clear hQ8 hg8 ho8))
                    go_roundw
                    case rel => exact ⟨u + 1, vs2 ++ [.slice A6 (wk.length + 1) c6], by go_num, by omega, by rw [List.getElem?_append_left hkv2]; exact HVK3.out, by
                      rw [HSTEP.out]
                      show Apt u6 W8 [iC b9 _, iQ _ (qF ((T.st ++ [(t : Int)]).drop k) ((vs2 ++ [Value.slice A6 (wk.length + 1) c6]).drop k)) ((T.st ++ [(t : Int)]).length - k), iV u6.heap.size _ _, iM u6.heap.size _]
                      rw [List.drop_append_of_le_length (by omega), List.drop_append_of_le_length (by omega), qF_snoc _ _ _ _ HQV.out, show (T.st ++ [(t : Int)]).length - k = n2 + 1 by rw [List.length_append, List.length_singleton]; have := HN2T.out; omega]
                      exact H8.out⟩
                    case measure => simp [intOf]; omega
                · obtain rfl : u = 6 := by omega
                  have huI : ¬ ((6 : Nat) : Int) < 6 := by omega
                  have HSTEP := hide (show sdK P (k + 1) = T by rw [sdK, if_pos hkS, ← HS.out, ← HWK.out]; exact HT.out.symm)
                  have HNX := hide (HNO.out.succ hkS HF9.out)
                  have hn2p : 0 < n2 := by have := HN2T.out; omega
                  have HFIN := hide (show SiR P u6 (k + 1) (.slice (if cap2 = 1 then some ⟨g2, off2, none⟩ else some ⟨g2, off2 + 2, none⟩) (n2 - 1) (cap2 - 1)) W2 from ⟨vs2, HNX.out, by
                    have h := HA.out.pop.dropQ 0 rfl hn2p
                    rw [qF_drop _ _ HQV.out, List.drop_drop, List.drop_drop] at h
                    rw [HSTEP.out, show T.st.length - (k + 1) = n2 - 1 by have := HN2T.out; omega]
                    exact h⟩)
                  have HK1 := hide (HNX.out.le HPO.out)
                  clear hM t1 f1 f2 x0 x1 t0
                  by_cases hc1 : cap2 = 1
                  · have hn21 : n2 = 1 := by omega
                    subst hc1 hn21
                    have h6 : SiR P u6 (k + 1) (.slice (some ⟨g2, off2, none⟩) 0 0) W2 := by
                      have h := HFIN.out
                      rw [if_pos rfl] at h
                      exact h
                    have HFIN := hide h6
                    clear h6
                    go_wp2_with fail
                    go_roundw
                    case rel => exact ⟨k + 1, HFIN.out⟩
                    case measure =>
                      have h1 := topK_ge (R := fun k => SiR P u6 k _ _) 100 (k + 1) HK1.out HFIN.out
                      have h2 := HKD.out
                      omega
                  · have h6 := HFIN.out
                    rw [if_neg hc1] at h6
                    have HFIN := hide h6
                    clear h6
                    have hc2 : ¬ cap2 - 1 = 0 := by omega
                    go_wp2_with fail
                    go_roundw
                    case rel => exact ⟨k + 1, HFIN.out⟩
                    case measure =>
                      have h1 := topK_ge (R := fun k => SiR P u6 k _ _) 100 (k + 1) HK1.out HFIN.out
                      have h2 := HKD.out
                      omega
          · clear hn
            obtain rfl : n = 0 := by omega
            have HSDX := hide (show SdX a b false [] by
              rw [SdX, if_pos ⟨HVA.out, HVB.out⟩, ← HP.out]
              exact .inr ⟨rfl, rfl, k, by have := HN0.out; omega, HNO.out⟩)
            have HXF := hide (HX6.out.trans HX06.out)
            clear x0 x1
            have hnI : ¬ (0 : Int) < ((0 : Nat) : Int) := by omega
            go_wp2_with fail
            go_ret2
            exact ⟨false, [], _, HSDX.out, rfl, OwnRes.nil_ rfl HXF.out⟩
end Go.Proofs.Ytdiedghaoleblaa
