/- Lists of things of one make in memory, whatever their make: how a slice of them reads, and slices of the call's own. -/
import Derived.Test.YtgpbmggfpbebmaaGreatCpA
import Derived.Laws.OwnMore
import Derived.Test.YtgpbmggfpbebmaaGreatRF
import Derived.ArgAppend
namespace Go.Proofs.YtgpbmggfpbebmaaGreat
open Go.RowKit

/-- How the things of a list lie in memory. -/
structure Lay (α : Type) where
  e : TypeId
  st : TypeId
  size : Nat
  bytes : Nat
  z : Value
  enc : α → List Value
structure LayOk {α : Type} (L : Lay α) (P : Program) : Prop where
  pos : 0 < L.size
  len : ∀ x, (L.enc x).length = L.size
  one : ∀ x, ∀ u ∈ L.enc x, u.oneCell' = true
  und : P.underlying L.st = some (.slice L.e)
  info : ∃ i, P.info? L.e = some i ∧ i.zero = some L.z ∧ i.size = L.size ∧ i.bytes = L.bytes
  zs : L.z.cells.size = L.size
section
variable {α : Type} {L : Lay α} {P : Program}
def Lay.flat (L : Lay α) (xs : List α) : List Value := xs.flatMap L.enc
theorem Lay.flat_nil : L.flat [] = [] := rfl
theorem Lay.flat_cons (x : α) (xs : List α) : L.flat (x :: xs) = L.enc x ++ L.flat xs := rfl
theorem Lay.flat_append (xs ys : List α) : L.flat (xs ++ ys) = L.flat xs ++ L.flat ys := by simp [Lay.flat]
theorem LayOk.flen (hL : LayOk L P) : ∀ xs : List α, (L.flat xs).length = xs.length * L.size
  | [] => by simp [Lay.flat]
  | x :: xs => by rw [Lay.flat_cons, List.length_append, hL.len, hL.flen xs, List.length_cons, Nat.add_mul]; omega
theorem LayOk.flat_one (hL : LayOk L P) (xs : List α) : ∀ u ∈ L.flat xs, u.oneCell' = true := by
  intro u hu
  obtain ⟨x, _, hx⟩ := List.mem_flatMap.1 hu
  exact hL.one x u hx
theorem LayOk.flat_at (hL : LayOk L P) : ∀ (xs : List α) (i j : Nat) (hi : i < xs.length), j < L.size → (L.flat xs)[i * L.size + j]? = (L.enc (xs[i]))[j]?
  | x :: xs, 0, j, _, hj => by
    rw [Lay.flat_cons, Nat.zero_mul, Nat.zero_add, List.getElem?_append_left (by rw [hL.len]; exact hj)]; rfl
  | x :: xs, i + 1, j, hi, hj => by
    have hi' : i < xs.length := by simpa using hi
    have e : (i + 1) * L.size + j = L.size + (i * L.size + j) := by rw [Nat.add_mul]; omega
    rw [Lay.flat_cons, List.getElem?_append_right (by rw [hL.len]; omega), hL.len, e, Nat.add_sub_cancel_left, hL.flat_at xs i j hi' hj]; rfl
theorem LayOk.flat_drop (hL : LayOk L P) : ∀ (xs : List α) (i j : Nat), (L.flat (xs.drop i))[j]? = if i ≤ xs.length then (L.flat xs)[i * L.size + j]? else none := by
  intro xs i j
  split
  · rename_i hi
    have h : L.flat xs = L.flat (xs.take i) ++ L.flat (xs.drop i) := by rw [← Lay.flat_append, List.take_append_drop]
    have hl : (L.flat (xs.take i)).length = i * L.size := by rw [hL.flen, List.length_take, Nat.min_eq_left hi]
    rw [h, List.getElem?_append_right (by omega), hl, Nat.add_sub_cancel_left]
  · rename_i hi
    rw [List.drop_of_length_le (by omega)]; simp [Lay.flat]
theorem Lay.flat_take (xs : List α) (i j : Nat) (u : Value) (h : (L.flat (xs.take i))[j]? = some u) : (L.flat xs)[j]? = some u := by
  have e : L.flat xs = L.flat (xs.take i) ++ L.flat (xs.drop i) := by rw [← Lay.flat_append, List.take_append_drop]
  rw [e, List.getElem?_append_left (List.getElem?_eq_some_iff.1 h).1]; exact h

/-- v is a slice whose cells read as the list xs. -/
def Lay.S (L : Lay α) (w : World) (v : Value) (xs : List α) : Prop :=
  ∃ A c, v = .slice A xs.length c ∧ xs.length ≤ c ∧ xs.length * L.bytes ≤ 140737488355328 ∧
    (0 < xs.length → ∃ b off, A = some ⟨b, off, none⟩ ∧ b < w.heap.size ∧ ∀ j u, (L.flat xs)[j]? = some u → w.cell? ⟨b, off + j, none⟩ = some u)
theorem LayS.ext {w w' : World} {v : Value} {xs : List α} (h : L.S w v xs) (hx : Ext w w') : L.S w' v xs := by
  obtain ⟨A, c, h1, h2, h3, h5⟩ := h
  refine ⟨A, c, h1, h2, h3, fun hp => ?_⟩
  obtain ⟨b, off, e, hb, hc⟩ := h5 hp
  exact ⟨b, off, e, Nat.lt_of_lt_of_le hb hx.size, fun j u hj => (hx.cell (p := ⟨b, _, none⟩) hb).trans (hc j u hj)⟩
theorem LayS.form {w : World} {v : Value} {xs : List α} (h : L.S w v xs) : ∃ A c, v = .slice A xs.length c ∧ xs.length ≤ c := by
  obtain ⟨A, c, h1, h2, -, -⟩ := h
  exact ⟨A, c, h1, h2⟩
theorem LayS.bytes {w : World} {v : Value} {xs : List α} (h : L.S w v xs) : xs.length * L.bytes ≤ 140737488355328 := by
  obtain ⟨A, c, -, -, h3, -⟩ := h
  exact h3
theorem LayS.at_ {w : World} {A : Option Addr} {n c : Nat} {xs : List α} (h : L.S w (.slice A n c) xs) (hp : 0 < xs.length) :
    ∃ b off, A = some ⟨b, off, none⟩ ∧ b < w.heap.size ∧ ∀ j u, (L.flat xs)[j]? = some u → w.cell? ⟨b, off + j, none⟩ = some u := by
  obtain ⟨A', c', h1, -, -, h5⟩ := h
  injection h1 with e1 e2 e3
  subst e1
  exact h5 hp
/-- The first i ones. -/
theorem LayS.take {w : World} {A : Option Addr} {n c c' : Nat} {xs : List α} (h : L.S w (.slice A n c) xs) {i : Nat} (hi : i ≤ xs.length) (hc : i ≤ c') : L.S w (.slice A i c') (xs.take i) := by
  obtain ⟨A', c0, h1, h2, h3, h5⟩ := h
  injection h1 with e1 e2 e3
  subst e1
  have hl : (xs.take i).length = i := by rw [List.length_take, Nat.min_eq_left hi]
  refine ⟨A, c', by rw [hl], by rw [hl]; exact hc, by rw [hl]; exact Nat.le_trans (Nat.mul_le_mul_right _ hi) h3, fun hp => ?_⟩
  rw [hl] at hp
  obtain ⟨b, off, e, hb, hcc⟩ := h5 (by omega)
  exact ⟨b, off, e, hb, fun j u hj => hcc j u (Lay.flat_take xs i j u hj)⟩
/-- All but the first i ones. -/
theorem LayS.drop (hL : LayOk L P) {w : World} {A A2 : Option Addr} {n c n2 c2 : Nat} {xs : List α} (h : L.S w (.slice A n c) xs) {i : Nat} (hi : i ≤ xs.length) (hn : n2 = xs.length - i) (hc : n2 ≤ c2)
    (hA : i < xs.length → ∀ b off, A = some ⟨b, off, none⟩ → A2 = some ⟨b, off + i * L.size, none⟩) : L.S w (.slice A2 n2 c2) (xs.drop i) := by
  obtain ⟨A', c0, h1, h2, h3, h5⟩ := h
  injection h1 with e1 e2 e3
  subst e1; subst hn
  have hl : (xs.drop i).length = xs.length - i := by rw [List.length_drop]
  refine ⟨A2, c2, by rw [hl], by rw [hl]; exact hc, by rw [hl]; exact Nat.le_trans (Nat.mul_le_mul_right _ (Nat.sub_le _ _)) h3, fun hp => ?_⟩
  rw [hl] at hp
  obtain ⟨b, off, e, hb, hcc⟩ := h5 (by omega)
  refine ⟨b, off + i * L.size, hA (by omega) b off e, hb, fun j u hj => ?_⟩
  rw [hL.flat_drop, if_pos hi] at hj
  rw [Nat.add_assoc]
  exact hcc _ u hj

/-- v is nil, or a slice of the call's own from block base on; it reads as xs. -/
def Lay.App (L : Lay α) (base : Nat) (w : World) (v : Value) (xs : List α) : Prop := w.ownsRow base L.e L.size v xs.length (L.flat xs)
theorem LayApp.nil_ (base : Nat) (w : World) : L.App base w (.slice none 0 0) [] := World.ownsRow_nil w base _ _
theorem LayApp.form {base : Nat} {w : World} {v : Value} {xs : List α} (h : L.App base w v xs) : ∃ A c, v = .slice A xs.length c ∧ xs.length ≤ c ∧ c ≤ 9223372036854775807 := by
  rcases h.2 with ⟨h1, h2⟩ | ⟨g, cap, cur, h1, -, -, h2, h3, -⟩
  · exact ⟨none, 0, by rw [h1, h2], by omega, by omega⟩
  · unfold maxLen at h3
    exact ⟨_, _, h1, h2, by omega⟩
theorem LayApp.hnil {base : Nat} {w : World} {v : Value} {xs : List α} (h : L.App base w v xs) : ∀ n c, v = .slice none n c → c = 0 := by
  intro n c e
  rcases h.2 with ⟨h1, h2⟩ | ⟨g, cap, cur, h1, -⟩
  · rw [h1] at e; injection e with _ _ e3; exact e3.symm
  · rw [h1] at e; injection e with e1; cases e1
theorem LayApp.ext {base : Nat} {w w' : World} {v : Value} {xs : List α} (h : L.App base w v xs) (hx : Ext w w') : L.App base w' v xs :=
  World.ownsRow.kept (row := none) h ⟨hx.os, hx.tape, hx.output, hx.size, fun k hk _ => hx.block k hk⟩ (by
    cases hv : v.ownBlock with
    | none => exact .inl rfl
    | some k => exact .inr (by simp))
theorem LayApp.mono {base b1 : Nat} {w : World} {v : Value} {xs : List α} (h : L.App base w v xs) (hb : b1 ≤ base) : L.App b1 w v xs := by
  refine ⟨h.1, ?_⟩
  rcases h.2 with hn | ⟨g, cap, cur, e, hg, rest⟩
  · exact .inl hn
  · exact .inr ⟨g, cap, cur, e, by omega, rest⟩
theorem LayApp.empty (w : World) {o : Obj} (ho : o = .cells #[] L.e) : L.App w.heap.size (w.alloc o) (.slice (some ⟨w.heap.size, 0, none⟩) 0 0) [] := by
  subst ho
  exact World.ownsRow_lit (size := L.size) (e := L.e) w #[] 0 (Nat.le_refl _) (by unfold maxLen; omega) (by simp)
theorem LayApp.S {base : Nat} {w : World} {v : Value} {xs : List α} (h : L.App base w v xs) (hb : xs.length * L.bytes ≤ 140737488355328) : L.S w v xs := by
  rcases h.2 with ⟨h1, h2⟩ | ⟨g, cap, cur, h1, hg, hh, hnc, hm, hcs, htk⟩
  · have : xs = [] := List.length_eq_zero_iff.1 h2
    subst this
    exact ⟨none, 0, h1, Nat.le_refl _, hb, fun hp => absurd hp (by simp)⟩
  · refine ⟨_, _, h1, hnc, hb, fun _ => ⟨g, 0, rfl, (Array.getElem?_eq_some_iff.1 hh).1, fun j u hj => ?_⟩⟩
    rw [← htk, List.getElem?_take] at hj
    split at hj
    · rw [Array.getElem?_toList] at hj
      simp [World.cell?, hh, hj]
    · cases hj
/-- Nothing but its own block may be written by an append to it. -/
theorem LayApp.below {base : Nat} {w w' : World} {v : Value} {xs : List α} (h : L.App base w v xs) (hg : w.grownBy w' v.ownBlock) (hb : base ≤ w.heap.size) : Below base w w' := by
  refine ⟨hg.os, hg.tape, hg.output, hg.size, fun k hk => hg.block k (by omega) ?_⟩
  intro e
  have := (World.ownsRow.lt h k e.symm).1
  omega
/-- append of a slice to a slice of the call's own. -/
theorem run_appG (hL : LayOk L P) (w : World) (ty : TypeId) (base : Nat) (v va : Value) (xs ys : List α) (hown : L.App base w v xs) (hy : L.S w va ys) (hnil : ∀ n c, va = .slice none n c → c = 0)
    (hl : xs.length + ys.length ≤ 1000000000000) (hb : (xs.length + ys.length) * L.bytes ≤ 140737488355328) (hbase : base ≤ w.heap.size) :
    ∃ v' w', (Builtin.append_ #[L.st, L.st] ty #[v, va]).run P w = .ok v' w' ∧ L.App base w' v' (xs ++ ys) ∧ Below base w w' := by
  obtain ⟨i, hi, hz, hsz, hby⟩ := hL.info
  obtain ⟨A, c, rfl, hlc, -, hc⟩ := hy
  cases A with
  | none =>
    have h0 : ys.length = 0 := by
      rcases Nat.eq_zero_or_pos ys.length with h | h
      · exact h
      · obtain ⟨b, off, e, -⟩ := hc h
        cases e
    obtain rfl := List.length_eq_zero_iff.1 h0
    obtain rfl := hnil _ _ rfl
    refine ⟨v, w, run_append_owned_none (P := P) w base L.st ty L.e i L.size hL.und hi v xs.length (L.flat xs) hown, by rw [List.append_nil]; exact hown, Below.refl _ _⟩
  | some ad =>
    obtain ⟨v', w', e1, e2, e3, -⟩ := run_append_own (P := P) w base L.st ty L.e i L.z L.size L.bytes hL.und hi hz hsz hby hL.zs hL.pos v xs.length (L.flat xs) hown ad ys.length c (L.flat ys) (hL.flen ys) (by
      intro j u hj
      have hp : 0 < ys.length := by
        rcases Nat.eq_zero_or_pos ys.length with h | h
        · obtain rfl := List.length_eq_zero_iff.1 h
          simp [Lay.flat] at hj
        · exact h
      obtain ⟨b, off, e, hb', hcc⟩ := hc hp
      have e := Option.some.inj e
      subst e
      have hadd : (⟨b, off, none⟩ : Addr).add j = ⟨b, off + j, none⟩ := by unfold Addr.add; split <;> simp_all
      rw [hadd]
      exact hcc j u hj) (hL.flat_one ys) (by unfold maxLen; omega) hb hbase
    refine ⟨v', w', e1, ?_, LayApp.below hown e3 hbase⟩
    unfold Lay.App
    rw [List.length_append, Lay.flat_append]
    exact e2
theorem wpList_appG (hL : LayOk L P) (w : World) {ops : Array Oper} {rest : List Oper} {o : Oper} {a : Act} {Q : Exit → Act → World → Prop} (hgd : o.guard = none) (s x : Operand)
    (ho : o.op = .call { callee := .builtin .append, args := #[s, x], argTypes := #[L.st, L.st] })
    (base : Nat) (v va : Value) (xs ys : List α) (hs : a.eval s = v) (hx : a.eval x = va) (hown : L.App base w v xs) (hy : L.S w va ys) (hnil : ∀ n c, va = .slice none n c → c = 0)
    (hl : xs.length + ys.length ≤ 1000000000000) (hb : (xs.length + ys.length) * L.bytes ≤ 140737488355328) (hbase : base ≤ w.heap.size)
    (h : ∀ v' w', L.App base w' v' (xs ++ ys) → Below base w w' → wpList P ops Q rest (a.put o.dst v') w') : wpList P ops Q (o :: rest) a w := by
  obtain ⟨v', w', hrun, h1, h2⟩ := run_appG hL w o.type base v va xs ys hown hy hnil hl hb hbase
  refine wpList_plain hgd fun K hK => ?_
  unfold Oper.wp
  simp [execOp, ho, resolve, invoke, builtin, hs, hx, hrun, Result.andThen]
  exact hK _ _ (h v' w' h1 h2)
/-- make of n things of which none counts. -/
theorem wpList_mkG (hL : LayOk L P) (w : World) {ops : Array Oper} {rest : List Oper} {o : Oper} {a : Act} {Q : Exit → Act → World → Prop}
    (hg : o.guard = none) (l c : Operand) (hop : o.op = Op.makeSlice L.st l c) (n : Nat) (hl : a.eval l = .int .i64 0) (hc : a.eval c = .int .i64 (n : Int)) (hn : n * L.bytes ≤ 140737488355328) (hn2 : n ≤ 1000000000000)
    (hK : ∀ v' w', L.App w.heap.size w' v' [] → Ext w w' → wpList P ops Q rest (a.put o.dst v') w') : wpList P ops Q (o :: rest) a w := by
  obtain ⟨i, hi, hz, hsz, hby⟩ := hL.info
  refine wpList_plain hg fun K hK' => ?_
  obtain ⟨w', hrun, hown, hgr⟩ := run_make_own (P := P) w w.heap.size L.st L.e i L.z L.size hL.und hi hz hsz .i64 .i64 n (by rw [hby, Nat.mul_comm]; omega) (by unfold maxLen; omega) (Nat.le_refl _)
  unfold Oper.wp
  simp [execOp, hop, hl, hc, hrun, Result.andThen]
  exact hK' _ _ (hK _ _ hown ⟨hgr.os, hgr.tape, hgr.output, hgr.size, fun k hk => hgr.block k hk (by simp)⟩)
/-- The result is a slice of the call's own that reads as xs. -/
def Lay.Res (L : Lay α) (xs : List α) (w : World) (e : Ending) (w' : World) : Prop := ∃ v, e = .returned v ∧ L.App w.heap.size w' v xs ∧ Ext w w'
/-- The cells of its own row, whatever its length in memory: they read as xs. -/
def Lay.Own (L : Lay α) (w : World) (A : Option Addr) (b m : Nat) (f : Nat → Value) (xs : List α) : Prop :=
  0 < xs.length → A = some ⟨b, 0, none⟩ ∧ w.rowIs b L.e m f ∧ xs.length * L.size ≤ m ∧ ∀ j u, (L.flat xs)[j]? = some u → f j = u
/-- The result is a slice of its own, of no more room than length. -/
def Lay.Clip (L : Lay α) (xs : List α) (w : World) (e : Ending) (w' : World) : Prop :=
  ∃ A b m f, e = .returned (.slice A xs.length xs.length) ∧ w.heap.size ≤ b ∧ L.Own w' A b m f xs ∧ Ext w w'
theorem LayOwn.ext {w w' : World} {A : Option Addr} {b m : Nat} {f : Nat → Value} {xs : List α} (h : L.Own w A b m f xs) (hx : Ext w w') : L.Own w' A b m f xs :=
  fun hp => ⟨(h hp).1, hx.row (h hp).2.1, (h hp).2.2⟩
theorem LayApp.own {base : Nat} {w : World} {A : Option Addr} {n c : Nat} {xs : List α} (h : L.App base w (.slice A n c) xs) : ∃ b m f, base ≤ b ∧ L.Own w A b m f xs ∨ xs = [] := by
  rcases h.2 with ⟨h1, h2⟩ | ⟨g, cap, cur, h1, hg, hh, hnc, hm, hcs, htk⟩
  · exact ⟨0, 0, fun _ => undef, .inr (List.length_eq_zero_iff.1 h2)⟩
  · injection h1 with e1 e2 e3
    subst e1
    refine ⟨g, cap * L.size, fun j => cur.getD j undef, .inl ⟨hg, fun hp => ⟨rfl, ⟨cur, hh, hcs, fun i hi => ?_⟩, Nat.mul_le_mul_right _ (by omega), fun j u hj => ?_⟩⟩⟩
    · show _ = some (cur.getD i _)
      rw [Array.getD_eq_getD_getElem?, Array.getElem?_eq_getElem (by omega)]; rfl
    · rw [← htk, List.getElem?_take] at hj
      split at hj
      · rw [Array.getElem?_toList] at hj
        show cur.getD j _ = _
        rw [Array.getD_eq_getD_getElem?, hj]; rfl
      · cases hj
theorem LayApp.clip {w0 w : World} {A : Option Addr} {c : Nat} {xs : List α} (h : L.App w0.heap.size w (.slice A xs.length c) xs) (hx : Ext w0 w) : L.Clip xs w0 (.returned (.slice A xs.length xs.length)) w := by
  obtain ⟨b, m, f, h1 | rfl⟩ := LayApp.own h
  · exact ⟨A, b, m, f, rfl, h1.1, h1.2, hx⟩
  · exact ⟨A, w0.heap.size, 0, fun _ => undef, rfl, Nat.le_refl _, fun hp => absurd hp (by simp), hx⟩
theorem LayOwn.S {w : World} {A : Option Addr} {b m c : Nat} {f : Nat → Value} {xs : List α} (hL : LayOk L P) (h : L.Own w A b m f xs) (hc : xs.length ≤ c) (hb : xs.length * L.bytes ≤ 140737488355328) : L.S w (.slice A xs.length c) xs := by
  refine ⟨A, c, rfl, hc, hb, fun hp => ?_⟩
  obtain ⟨h1, h2, h3, h4⟩ := h hp
  refine ⟨b, 0, h1, h2.lt, fun j u hj => ?_⟩
  have hjl : j < xs.length * L.size := by rw [← hL.flen]; exact (List.getElem?_eq_some_iff.1 hj).1
  rw [Nat.zero_add, h2.cell (by omega), h4 j u hj]
/-- Things are dropped one by one, in order, if the others are enough. -/
def shr (p : List α → Bool) : Nat → Nat → List α → List α
  | 0, _, l => l
  | n + 1, i, l => if p (l.eraseIdx i) = true then shr p n i (l.eraseIdx i) else shr p n (i + 1) l
theorem shr_G {p : List α → Bool} {G : List α → Prop} (hG : ∀ l i, G l → G (l.eraseIdx i)) : ∀ (n i : Nat) (l : List α), G l → G (shr p n i l)
  | 0, _, _, h => h
  | n + 1, i, l, h => by
    rw [shr]
    split
    · exact shr_G hG n i _ (hG l i h)
    · exact shr_G hG n (i + 1) l h
def lenOf : Value → Nat
  | .slice _ n _ => n
  | _ => 0
end
end Go.Proofs.YtgpbmggfpbebmaaGreat
/- append to a slice of structs of the call's own, told which blocks it may write. -/
namespace Go.Proofs.YtgpbmggfpbebmaaGreat
open Go.RowKit
section
variable {α : Type} {L : Lay α} {P : Program}
/-- v is nil, or a slice of the call's own that reads as xs; its block is such as S names. -/
def Lay.K (L : Lay α) (S : Nat → Prop) (w : World) (v : Value) (xs : List α) : Prop := L.App 0 w v xs ∧ ∀ g, v.ownBlock = some g → S g
theorem LayK.of {S : Nat → Prop} {base : Nat} {w : World} {v : Value} {xs : List α} (h : L.App base w v xs) (hS : ∀ k, base ≤ k → S k) : L.K S w v xs :=
  ⟨LayApp.mono h (Nat.zero_le _), fun g hg => hS g (World.ownsRow.lt h g hg).1⟩
theorem LayK.keep {S T : Nat → Prop} {w w' : World} {v : Value} {xs : List α} (h : L.K S w v xs) (hk : Keep T w w') (hST : ∀ k, S k → T k) : L.K S w' v xs := by
  obtain ⟨⟨h1, h2⟩, h3⟩ := h
  refine ⟨⟨h1, ?_⟩, h3⟩
  rcases h2 with hn | ⟨g, cap, cur, e, hb, hgg, rest⟩
  · exact .inl hn
  · exact .inr ⟨g, cap, cur, e, hb, (hk.block g (Array.getElem?_eq_some_iff.1 hgg).1 (hST g (h3 g (by rw [e]; rfl)))).trans hgg, rest⟩
theorem LayK.ext {S : Nat → Prop} {w w' : World} {v : Value} {xs : List α} (h : L.K S w v xs) (hx : Ext w w') : L.K S w' v xs := LayK.keep (T := S) h (hx.keep _) (fun _ h => h)
theorem LayK.form {S : Nat → Prop} {w : World} {v : Value} {xs : List α} (h : L.K S w v xs) : ∃ A c, v = .slice A xs.length c ∧ xs.length ≤ c ∧ c ≤ 9223372036854775807 := LayApp.form h.1
theorem run_appK (hL : LayOk L P) (w : World) (ty : TypeId) (S : Nat → Prop) (v va : Value) (xs ys : List α) (hown : L.K S w v xs) (hy : L.S w va ys) (hnil : ∀ n c, va = .slice none n c → c = 0)
    (hl : xs.length + ys.length ≤ 1000000000000) (hb : (xs.length + ys.length) * L.bytes ≤ 140737488355328) (hS : ∀ k, w.heap.size ≤ k → S k) :
    ∃ v' w', (Builtin.append_ #[L.st, L.st] ty #[v, va]).run P w = .ok v' w' ∧ L.K S w' v' (xs ++ ys) ∧ Keep (fun k => ¬ S k) w w' := by
  obtain ⟨i, hi, hz, hsz, hby⟩ := hL.info
  obtain ⟨hown, hv⟩ := hown
  obtain ⟨A, c, rfl, hlc, -, hc⟩ := hy
  cases A with
  | none =>
    have h0 : ys.length = 0 := by
      rcases Nat.eq_zero_or_pos ys.length with h | h
      · exact h
      · obtain ⟨b, off, e, -⟩ := hc h
        cases e
    obtain rfl := List.length_eq_zero_iff.1 h0
    obtain rfl := hnil _ _ rfl
    exact ⟨v, w, run_append_owned_none (P := P) w 0 L.st ty L.e i L.size hL.und hi v xs.length (L.flat xs) hown, by rw [List.append_nil]; exact ⟨hown, hv⟩, Keep.refl _ _⟩
  | some ad =>
    have hnews : ∀ j u, (L.flat ys)[j]? = some u → w.cell? (ad.add j) = some u := by
      intro j u hj
      have hp : 0 < ys.length := by
        rcases Nat.eq_zero_or_pos ys.length with h | h
        · obtain rfl := List.length_eq_zero_iff.1 h
          simp [Lay.flat] at hj
        · exact h
      obtain ⟨b, off, e, hb', hcc⟩ := hc hp
      have e := Option.some.inj e
      subst e
      have hadd : (⟨b, off, none⟩ : Addr).add j = ⟨b, off + j, none⟩ := by unfold Addr.add; split <;> simp_all
      rw [hadd]
      exact hcc j u hj
    have hone := hL.flat_one ys
    rcases hown.2 with ⟨rfl, h0⟩ | ⟨g, cap, cur, rfl, hg, hh, hnc, hcm, hcs, htk⟩
    · obtain rfl := List.length_eq_zero_iff.1 h0
      obtain ⟨v', w', e1, e2, e3, -⟩ := run_append_own (P := P) w w.heap.size L.st ty L.e i L.z L.size L.bytes hL.und hi hz hsz hby hL.zs hL.pos (.slice none 0 0) 0 [] (World.ownsRow_nil w _ _ _) ad ys.length c (L.flat ys) (hL.flen ys) hnews hone (by unfold maxLen; simp at hl; omega) (by simpa using hb) (Nat.le_refl _)
      refine ⟨v', w', e1, ?_, ?_⟩
      · have e2' : L.App w.heap.size w' v' ys := by unfold Lay.App; simpa using e2
        exact LayK.of e2' hS
      · exact ⟨e3.os, e3.tape, e3.output, e3.size, fun k hk _ => e3.block k hk (by intro e; cases e)⟩
    · by_cases hlt : xs.length + ys.length ≤ cap
      · obtain ⟨w', e1, e2, e3⟩ := run_append_fits (P := P) w 0 L.st ty L.e i L.size hL.und hi hsz g xs.length cap (L.flat xs) hown ad ys.length c (L.flat ys) (hL.flen ys) hnews hone hlt
        refine ⟨_, w', e1, ⟨?_, fun g' hg' => hv g' hg'⟩, ⟨e3.os, e3.tape, e3.output, e3.size, fun k hk hs => e3.block k hk ?_⟩⟩
        · unfold Lay.App
          rw [List.length_append, Lay.flat_append]
          exact e2
        · intro e
          injection e with e
          exact hs (hv k (by rw [e]; rfl))
      · obtain ⟨v', w', e1, e2, e3⟩ := run_append_arg_grows (P := P) w L.st ty L.e i L.z L.size L.bytes hL.und hi hz hsz hby hL.zs hL.pos ⟨g, 0, none⟩ xs.length cap (L.flat xs) hown.1 (World.ownsRow.cells hown rfl) ad ys.length c (L.flat ys) (hL.flen ys) hnews (by omega) (by unfold maxLen; omega) hb
        refine ⟨v', w', e1, ?_, ⟨e3.os, e3.tape, e3.output, e3.size, fun k hk _ => e3.block k hk (by intro e; cases e)⟩⟩
        have e2' : L.App w.heap.size w' v' (xs ++ ys) := by
          unfold Lay.App
          rw [List.length_append, Lay.flat_append]
          exact e2
        exact LayK.of e2' hS
theorem wpList_appK (hL : LayOk L P) (w : World) {ops : Array Oper} {rest : List Oper} {o : Oper} {a : Act} {Q : Exit → Act → World → Prop} (hgd : o.guard = none) (s x : Operand)
    (ho : o.op = .call { callee := .builtin .append, args := #[s, x], argTypes := #[L.st, L.st] })
    (S : Nat → Prop) (v va : Value) (xs ys : List α) (hs : a.eval s = v) (hx : a.eval x = va) (hown : L.K S w v xs) (hy : L.S w va ys) (hnil : ∀ n c, va = .slice none n c → c = 0)
    (hl : xs.length + ys.length ≤ 1000000000000) (hb : (xs.length + ys.length) * L.bytes ≤ 140737488355328) (hS : ∀ k, w.heap.size ≤ k → S k)
    (h : ∀ v' w', L.K S w' v' (xs ++ ys) → Keep (fun k => ¬ S k) w w' → wpList P ops Q rest (a.put o.dst v') w') : wpList P ops Q (o :: rest) a w := by
  obtain ⟨v', w', hrun, h1, h2⟩ := run_appK hL w o.type S v va xs ys hown hy hnil hl hb hS
  refine wpList_plain hgd fun K hK => ?_
  unfold Oper.wp
  simp [execOp, ho, resolve, invoke, builtin, hs, hx, hrun, Result.andThen]
  exact hK _ _ (h v' w' h1 h2)
/-- A slice keeps what it reads as, where its block is kept. -/
theorem LayS.keep {T : Nat → Prop} {w w' : World} {b n c : Nat} {off : Nat} {xs : List α} (h : L.S w (.slice (some ⟨b, off, none⟩) n c) xs) (hk : Keep T w w') (hb : T b) : L.S w' (.slice (some ⟨b, off, none⟩) n c) xs := by
  obtain ⟨A, c0, h1, h2, h3, h5⟩ := h
  injection h1 with e1 e2 e3
  subst e1; subst e2; subst e3
  refine ⟨_, _, rfl, h2, h3, fun hp => ?_⟩
  obtain ⟨b', off', e, hb', hc⟩ := h5 hp
  injection e with e; injection e with e1 e2; subst e1; subst e2
  exact ⟨b, off, rfl, Nat.lt_of_lt_of_le hb' hk.size, fun j u hj => (hk.cell (p := ⟨b, _, none⟩) hb' hb).trans (hc j u hj)⟩
end
end Go.Proofs.YtgpbmggfpbebmaaGreat
