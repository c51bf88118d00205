/- Rows of ints of the call's own, each in a block of its own, that grow by whole rows. -/
import Derived.Test.YtdiedghaoleblaaSep
import Derived.Test.YtdiedghaoleblaaAppZ
namespace Go.Proofs.Ytdiedghaoleblaa
open Go.RowKit

/-- Two things taken as one. -/
def Itm.both (a b : Itm) : Itm := ⟨fun k => a.D k ∨ b.D k, fun W => a.P W ∧ b.P W⟩
theorem Itm.both_st {a b : Itm} (ha : a.St) (hb : b.St) : (a.both b).St := fun W W' h hk => ⟨ha W W' h.1 (hk.mono (fun _ _ t => .inl t)), hb W W' h.2 (hk.mono (fun _ _ t => .inr t))⟩
theorem Apt.merge {w0 W : World} {a b : Itm} {l : List Itm} (h : Apt w0 W (a :: l)) (n : Nat) (hn : l[n]? = some b) : Apt w0 W (l.set n (a.both b)) := by
  have hnl : n < l.length := (List.getElem?_eq_some_iff.1 hn).1
  have h0 : (a :: l)[0]? = some a := rfl
  have hn' : (a :: l)[n + 1]? = some b := hn
  have hget : ∀ i c, (l.set n (a.both b))[i]? = some c → (i = n ∧ c = a.both b) ∨ (i ≠ n ∧ (a :: l)[i + 1]? = some c) := by
    intro i c hc
    rw [List.getElem?_set] at hc
    by_cases hi : n = i
    · subst hi
      rw [if_pos rfl, if_pos hnl] at hc
      injection hc with hc
      exact .inl ⟨rfl, hc.symm⟩
    · rw [if_neg hi] at hc
      exact .inr ⟨fun e => hi e.symm, hc⟩
  refine ⟨fun i c hc => ?_, fun i c hc k hk => ?_, fun i c hc => ?_, fun i j c d hc hd hij k hkc hkd => ?_, h.ext⟩
  · rcases hget i c hc with ⟨e1, e2⟩ | ⟨hi, hc'⟩
    · subst e2; exact ⟨h.p 0 a h0, h.p _ b hn'⟩
    · exact h.p _ c hc'
  · rcases hget i c hc with ⟨e1, e2⟩ | ⟨hi, hc'⟩
    · subst e2
      rcases hk with hk | hk
      · exact h.d 0 a h0 k hk
      · exact h.d _ b hn' k hk
    · exact h.d _ c hc' k hk
  · rcases hget i c hc with ⟨e1, e2⟩ | ⟨hi, hc'⟩
    · subst e2; exact Itm.both_st (h.s 0 a h0) (h.s _ b hn')
    · exact h.s _ c hc'
  · rcases hget i c hc with ⟨e1, e2⟩ | ⟨hi, hc'⟩
    · rcases hget j d hd with ⟨e3, e4⟩ | ⟨hj, hd'⟩
      · omega
      · subst e2
        rcases hkc with hk | hk
        · exact h.ap 0 (j + 1) a d h0 hd' (by omega) k hk hkd
        · exact h.ap (n + 1) (j + 1) b d hn' hd' (by omega) k hk hkd
    · rcases hget j d hd with ⟨e3, e4⟩ | ⟨hj, hd'⟩
      · subst e4
        rcases hkd with hk | hk
        · exact h.ap 0 (i + 1) a c h0 hc' (by omega) k hk hkc
        · exact h.ap (n + 1) (i + 1) b c hn' hc' (by omega) k hk hkc
      · exact h.ap _ _ c d hc' hd' (by omega) k hkc hkd
theorem Apt.drop1 {w0 W : World} {a b : Itm} {l : List Itm} (h : Apt w0 W (a :: b :: l)) : Apt w0 W (a :: l) := by
  refine ⟨fun i c hc => ?_, fun i c hc => ?_, fun i c hc => ?_, fun i j c d hc hd hij => ?_, h.ext⟩
  · cases i with
    | zero => exact h.p 0 c hc
    | succ i => exact h.p (i + 2) c hc
  · cases i with
    | zero => exact h.d 0 c hc
    | succ i => exact h.d (i + 2) c hc
  · cases i with
    | zero => exact h.s 0 c hc
    | succ i => exact h.s (i + 2) c hc
  · cases i with
    | zero =>
      cases j with
      | zero => omega
      | succ j => exact h.ap 0 (j + 2) c d hc hd (by omega)
    | succ i =>
      cases j with
      | zero => exact h.ap (i + 2) 0 c d hc hd (by omega)
      | succ j => exact h.ap (i + 2) (j + 2) c d hc hd (by omega)
theorem Apt.take {w0 W : World} {l : List Itm} (h : Apt w0 W l) (n : Nat) : Apt w0 W (l.take n) := by
  have hg : ∀ i (c : Itm), (l.take n)[i]? = some c → l[i]? = some c := fun i c hc => by
    rw [List.getElem?_take] at hc
    split at hc
    · exact hc
    · cases hc
  exact ⟨fun i c hc => h.p i c (hg i c hc), fun i c hc => h.d i c (hg i c hc), fun i c hc => h.s i c (hg i c hc), fun i j c d hc hd => h.ap i j c d (hg i c hc) (hg j d hd), h.ext⟩

/-- v holds the rows rs; row i lies in block kb i. -/
def OwnW (B : Nat) (w : World) (v : Value) (rs : List (List Int)) (kb : Nat → Nat) : Prop :=
  ∃ cells, w.ownsRow B 24 1 v rs.length cells ∧ (∀ i j, i < rs.length → j < rs.length → kb i = kb j → i = j) ∧
    ∀ i, i < rs.length → ∃ c f, cells[i]? = some (.slice (some ⟨kb i, 0, none⟩) (rw0 rs i).length c) ∧ (rw0 rs i).length ≤ c ∧ B ≤ kb i ∧ w.rowIs (kb i) 3 c f ∧ ∀ j, j < (rw0 rs i).length → f j = vI (at0 (rw0 rs i) j)
def iW (B : Nat) (v : Value) (rs : List (List Int)) (kb : Nat → Nat) : Itm := ⟨fun k => v.ownBlock = some k ∨ ∃ i, i < rs.length ∧ kb i = k, fun W => OwnW B W v rs kb⟩
theorem iW_st (B : Nat) (v : Value) (rs : List (List Int)) (kb : Nat → Nat) : (iW B v rs kb).St := by
  rintro W W' ⟨cells, h1, h2, h3⟩ hk
  refine ⟨cells, ownsRow_keep h1 hk (fun g e => .inl e), h2, fun i hi => ?_⟩
  obtain ⟨c, f, k1, k2, k3, k4, k5⟩ := h3 i hi
  exact ⟨c, f, k1, k2, k3, hk.row (.inr ⟨i, hi, rfl⟩) k4, k5⟩
theorem OwnW.nil_ (B : Nat) (w : World) (kb : Nat → Nat) : OwnW B w (.slice none 0 0) [] kb := ⟨[], World.ownsRow_nil w B _ _, fun i j hi => absurd hi (by simp), fun i hi => absurd hi (by simp)⟩
theorem OwnW.form {B : Nat} {w : World} {v : Value} {rs : List (List Int)} {kb : Nat → Nat} (h : OwnW B w v rs kb) : ∃ A c, v = .slice A rs.length c ∧ rs.length ≤ c := by
  obtain ⟨cells, h, -⟩ := h
  rcases h.2 with ⟨h1, h2⟩ | ⟨g, cap, cur, h1, -, -, h2, -⟩
  · exact ⟨none, 0, by rw [h1, h2], by omega⟩
  · exact ⟨_, _, h1, h2⟩
theorem OwnW.rows {B : Nat} {w : World} {v : Value} {rs : List (List Int)} {kb : Nat → Nat} (h : OwnW B w v rs kb) (hc : rs.length * 24 ≤ 140737488355328)
    (hl : ∀ i, i < rs.length → (rw0 rs i).length * 8 ≤ 140737488355328) (hi : ∀ i, i < rs.length → ∀ j, j < (rw0 rs i).length → I64 (at0 (rw0 rs i) j)) : SRows w v rs := by
  obtain ⟨cells, h1, -, h2⟩ := h
  rcases h1.2 with ⟨e1, e2⟩ | ⟨g, cap, cur, e1, hg, hh, hnc, hm, hcs, htk⟩
  · exact ⟨none, 0, by rw [e1, e2], by omega, hc, fun hp => absurd hp (by omega)⟩
  · refine ⟨_, _, e1, hnc, hc, fun _ => ⟨g, 0, rfl, (Array.getElem?_eq_some_iff.1 hh).1, fun i hi' => ?_⟩⟩
    obtain ⟨c, f, h3, h4, h5, h6, h7⟩ := h2 i hi'
    refine ⟨_, ?_, ⟨_, c, rfl, h4, hl i hi', hi i hi', fun _ => ⟨kb i, 0, rfl, h6.lt, fun j hj => by rw [Nat.zero_add, h6.cell (by omega), h7 j hj]; rfl⟩⟩⟩
    have e3 : (cur.toList.take (rs.length * 1))[i]? = cells[i]? := by rw [htk]
    rw [List.getElem?_take, if_pos (by omega), h3, Array.getElem?_toList] at e3
    simp [World.cell?, hh, e3]
/-- append of one row: the new row's block is none of the elder ones. -/
theorem run_appW (w : World) (ty : TypeId) (B : Nat) (v : Value) (rs : List (List Int)) (kb : Nat → Nat) (xs : List Int) (rv : Value) (b c : Nat)
    (hown : OwnW B w v rs kb) (hc : w.cell? ⟨b, 0, none⟩ = some rv) (hr : RowV B w rv xs) (hl : rs.length ≤ 1000000) (hB : B ≤ w.heap.size) (hne : ∀ i, i < rs.length → rv.ownBlock ≠ some (kb i)) :
    ∃ v' w', (Builtin.append_ #[23, 23] ty #[v, .slice (some ⟨b, 0, none⟩) 1 c]).run Try.prog w = .ok v' w' ∧ (∃ kb', OwnW B w' v' (rs ++ [xs]) kb' ∧ (∀ i, i < rs.length → kb' i = kb i) ∧ rv.ownBlock = some (kb' rs.length)) ∧ w.grownBy w' v.ownBlock ∧ (∀ g, v'.ownBlock = some g → v.ownBlock = some g ∨ w.heap.size ≤ g) := by
  obtain ⟨i, hi, hz, hsz, hby⟩ := Try.infoSp
  obtain ⟨cells, h1, h2, h3⟩ := hown
  obtain ⟨v', w', e1, e2, e3, e4⟩ := run_append_kind (P := Try.prog) w B 23 ty 24 i (.slice none 0 0) 24 Try.underlying23 hi hz hsz hby rfl v rs.length cells h1 b c rv hc hr.one (by unfold maxLen; omega) (by omega) hB
  have hkeep : ∀ {g : Nat} {n : Nat} {f : Nat → Value}, w.rowIs g 3 n f → w'.rowIs g 3 n f := by
    intro g n f k4
    refine k4.of_block (e3.block g k4.lt ?_)
    intro hne
    rcases h1.2 with ⟨q1, -⟩ | ⟨g', cap', cur', q1, -, q2, -⟩
    · rw [q1] at hne; cases hne
    · rw [q1] at hne
      injection hne with hne
      simp at hne
      subst hne
      obtain ⟨cc, p1, -⟩ := k4
      rw [p1] at q2
      injection q2 with q2
      injection q2 with _ q3
      cases q3
  obtain ⟨g, cap, f, rfl, hg, hcap, hrow, hf⟩ := hr
  have hcl : cells.length = rs.length := by simpa using h1.1
  refine ⟨v', w', e1, ⟨fun i => if i < rs.length then kb i else g, ⟨cells ++ [_], by simpa using e2, fun i j hi hj he => ?_, fun i hi => ?_⟩, fun i hi => if_pos hi, by simp [Value.ownBlock]⟩, e3, e4⟩
  · simp only [List.length_append, List.length_singleton] at hi hj
    simp only at he
    by_cases h4 : i < rs.length
    · by_cases h5 : j < rs.length
      · rw [if_pos h4, if_pos h5] at he
        exact h2 i j h4 h5 he
      · rw [if_pos h4, if_neg h5] at he
        exact absurd (by simp [Value.ownBlock, he]) (hne i h4)
    · by_cases h5 : j < rs.length
      · rw [if_neg h4, if_pos h5] at he
        exact absurd (by simp [Value.ownBlock, he]) (hne j h5)
      · omega
  · simp only [List.length_append, List.length_singleton] at hi
    by_cases hlt : i < rs.length
    · obtain ⟨c5, f5, k1, k2, k3, k4, k5⟩ := h3 i hlt
      rw [show rw0 (rs ++ [xs]) i = rw0 rs i by simp [rw0, List.getElem?_append_left hlt]]
      refine ⟨c5, f5, ?_, k2, ?_, ?_, k5⟩
      · simp only [if_pos hlt]; rw [List.getElem?_append_left (by omega)]; exact k1
      · simp only [if_pos hlt]; exact k3
      · simp only [if_pos hlt]; exact hkeep k4
    · obtain rfl : i = rs.length := by omega
      rw [show rw0 (rs ++ [xs]) rs.length = xs by simp [rw0]]
      refine ⟨cap, f, ?_, hcap, ?_, ?_, hf⟩
      · simp only [Nat.lt_irrefl, if_false]; rw [← hcl]; simp
      · simp only [Nat.lt_irrefl, if_false]; exact hg
      · simp only [Nat.lt_irrefl, if_false]; exact hkeep hrow
/-- The row at the head of the list goes into the rows at place n behind it. -/
theorem Apt.addW {w0 W W' : World} {l : List Itm} {B : Nat} {a : Itm} {rv v v' : Value} {rs : List (List Int)} {xs : List Int} {kb kb' : Nat → Nat} (h : Apt w0 W (a :: l)) (ha : ∀ k, a.D k ↔ rv.ownBlock = some k) (n : Nat) (hn : l[n]? = some (iW B v rs kb))
    (hA : OwnW B W' v' (rs ++ [xs]) kb') (h1 : ∀ i, i < rs.length → kb' i = kb i) (h2 : rv.ownBlock = some (kb' rs.length)) (hg : W.grownBy W' v.ownBlock) (ho : ∀ g, v'.ownBlock = some g → v.ownBlock = some g ∨ W.heap.size ≤ g) : Apt w0 W' (l.set n (iW B v' (rs ++ [xs]) kb')) := by
  have hm := h.merge n hn
  have hnl : n < l.length := (List.getElem?_eq_some_iff.1 hn).1
  have := hm.upd n (a.both (iW B v rs kb)) (iW B v' (rs ++ [xs]) kb') (by simp [hnl]) ((Keep.of_grown hg).mono (fun k _ hk e => hk (.inr (.inl e)))) hA (fun k hk => ?_) (iW_st _ _ _ _)
  · rwa [List.set_set] at this
  · obtain ⟨cells, q1, -, q3⟩ := hA
    rcases hk with hk | ⟨i, hi, rfl⟩
    · refine ⟨?_, (World.ownsRow.lt q1 k hk).2⟩
      rcases ho k hk with hk | hk
      · exact .inl (.inr (.inl hk))
      · exact .inr hk
    · obtain ⟨c, f, -, -, -, k4, -⟩ := q3 i hi
      refine ⟨.inl ?_, k4.lt⟩
      simp only [List.length_append, List.length_singleton] at hi
      by_cases hlt : i < rs.length
      · exact .inr (.inr ⟨i, hlt, (h1 i hlt).symm⟩)
      · obtain rfl : i = rs.length := by omega
        exact .inl ((ha _).2 h2)
theorem wpList_appW (w : World) {ops : Array Oper} {rest : List Oper} {o : Oper} {a : Act} {Q : Exit → Act → World → Prop} (hgd : o.guard = none) (s x : Operand)
    (ho : o.op = .call { callee := .builtin .append, args := #[s, x], argTypes := #[23, 23] })
    (B : Nat) (v : Value) (rs : List (List Int)) (kb : Nat → Nat) (xs : List Int) (rv : Value) (b c : Nat) (hs : a.eval s = v) (hx : a.eval x = .slice (some ⟨b, 0, none⟩) 1 c)
    (hown : OwnW B w v rs kb) (hc : w.cell? ⟨b, 0, none⟩ = some rv) (hr : RowV B w rv xs) (hl : rs.length ≤ 1000000) (hB : B ≤ w.heap.size) (hne : ∀ i, i < rs.length → rv.ownBlock ≠ some (kb i))
    (h : ∀ v' w' kb', OwnW B w' v' (rs ++ [xs]) kb' → (∀ i, i < rs.length → kb' i = kb i) → rv.ownBlock = some (kb' rs.length) → w.grownBy w' v.ownBlock → (∀ g, v'.ownBlock = some g → v.ownBlock = some g ∨ w.heap.size ≤ g) → wpList Try.prog ops Q rest (a.put o.dst v') w') : wpList Try.prog ops Q (o :: rest) a w := by
  obtain ⟨v', w', hrun, ⟨kb', h1, h2, h3⟩, h4, h5⟩ := run_appW w o.type B v rs kb xs rv b c hown hc hr hl hB hne
  refine wpList_plain hgd fun K hK => ?_
  unfold Oper.wp
  simp [execOp, ho, resolve, invoke, builtin, hs, hx, hrun, Result.andThen]
  exact hK _ _ (h v' w' kb' h1 h2 h3 h4 h5)
end Go.Proofs.Ytdiedghaoleblaa
