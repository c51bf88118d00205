/- append of one int to a slice that the call itself has made. -/
import Derived.Test.YtjpdebgejlfeaaaDoorLwsA
import Derived.Laws.AppendOwn
import Derived.Laws.MakeOwn
namespace Go.Proofs.YtjpdebgejlfeaaaDoor
open Go.RowKit

theorem Ext.below {a w w' : World} (h : Ext a w) (k : Below a.heap.size w w') : Ext a w' := Below.trans h k
/-- An int as a value. -/
def vI (x : Int) : Value := .int .i64 x
/-- v is nil, or a slice of the call's own from block base on; it reads as xs. -/
def AppI (base : Nat) (w : World) (v : Value) (xs : List Int) : Prop := w.ownsRow base 3 1 v xs.length (xs.map vI)
theorem AppI.nil_ (base : Nat) (w : World) : AppI base w (.slice none 0 0) [] := World.ownsRow_nil w base _ _
theorem AppI.form {base : Nat} {w : World} {v : Value} {xs : List Int} (h : AppI base w v xs) : ∃ A c, v = .slice A xs.length c ∧ xs.length ≤ c := by
  rcases h.2 with ⟨h1, h2⟩ | ⟨g, cap, cur, h1, -, -, h2, -⟩
  · exact ⟨none, 0, by rw [h1, h2], by omega⟩
  · exact ⟨_, _, h1, h2⟩
theorem AppI.ext {base : Nat} {w w' : World} {v : Value} {xs : List Int} (h : AppI base w v xs) (hx : Ext w w') : AppI base w' v xs :=
  World.ownsRow.kept (row := none) h ⟨hx.os, hx.tape, hx.output, hx.size, fun k hk _ => hx.block k hk⟩ (by
    cases hv : v.ownBlock with
    | none => exact .inl rfl
    | some k => exact .inr (by simp))
theorem AppI.res {w0 w : World} {v : Value} {xs : List Int} (h : AppI w0.heap.size w v xs) (hx : Ext w0 w) (hb : xs.length * 8 ≤ 140737488355328) : OwnRes xs w0 (.returned v) w := by
  rcases h.2 with ⟨h1, h2⟩ | ⟨g, cap, cur, h1, hg, hh, hnc, hm, hcs, htk⟩
  · have : xs = [] := List.length_eq_zero_iff.1 h2
    subst this
    rw [h1]
    exact OwnRes.nil_ rfl hx
  · refine ⟨_, _, g, cap, fun j => cur.getD j (.int .i64 0), by rw [h1], hnc, hb, hg, fun hp => ⟨rfl, ⟨cur, hh, by omega, fun i hi => ?_⟩, hnc, fun i hi => ?_⟩, hx⟩
    · show _ = some (cur.getD i _)
      rw [Array.getD_eq_getD_getElem?, Array.getElem?_eq_getElem (by omega)]; rfl
    · have e1 : (cur.toList.take (xs.length * 1))[i]? = (xs.map vI)[i]? := by rw [htk]
      rw [List.getElem?_take, if_pos (by omega)] at e1
      have e2 : cur[i]? = some (vI (at0 xs i)) := by
        rw [← Array.getElem?_toList, e1, List.getElem?_map, List.getElem?_eq_getElem hi]
        unfold at0
        rw [getD_lt _ _ hi]; rfl
      show cur.getD i _ = _
      rw [Array.getD_eq_getD_getElem?, e2]; rfl

theorem AppI.empty (w : World) : AppI w.heap.size (w.alloc (.cells #[] 3)) (.slice (some ⟨w.heap.size, 0, none⟩) 0 0) [] :=
  World.ownsRow_lit (size := 1) (e := 3) w #[] 0 (Nat.le_refl _) (by unfold maxLen; omega) rfl
theorem Tryd.infoIp : ∃ i, Tryd.prog.info? 3 = some i ∧ i.zero = some (.int .i64 0) ∧ i.size = 1 ∧ i.bytes = 8 := by
  obtain ⟨i, h1, h2⟩ := Option.map_eq_some_iff.1 Tryd.infoI
  simp only [Prod.mk.injEq] at h2
  exact ⟨i, h1, h2.1, h2.2.1, h2.2.2⟩
/-- append of the one int that lies at the head of block b. -/
theorem wpList_app1 (w : World) {ops : Array Oper} {rest : List Oper} {o : Oper} {a : Act} {Q : Exit → Act → World → Prop} (hgd : o.guard = none) (s x : Operand)
    (ho : o.op = .call { callee := .builtin .append, args := #[s, x], argTypes := #[24, 24] })
    (base : Nat) (v : Value) (xs : List Int) (y : Int) (b c : Nat) (hs : a.eval s = v) (hx : a.eval x = .slice (some ⟨b, 0, none⟩) 1 c)
    (hown : AppI base w v xs) (hc : w.cell? ⟨b, 0, none⟩ = some (.int .i64 y)) (hl : xs.length ≤ 1000000000000) (hbase : base ≤ w.heap.size)
    (h : ∀ v' w', AppI base w' v' (xs ++ [y]) → Below base w w' → wpList Tryd.prog ops Q rest (a.put o.dst v') w') : wpList Tryd.prog ops Q (o :: rest) a w := by
  obtain ⟨i, hi, hz, hsz, hby⟩ := Tryd.infoIp
  refine wpList_append_own w hgd s x 24 ho base 3 i (.int .i64 0) 1 8 Tryd.underlying24 hi hz hsz hby rfl (by omega) v xs.length (xs.map vI) hs hown ⟨b, 0, none⟩ 1 c [vI y] hx rfl ?_ ?_ (by unfold maxLen; omega) (by omega) hbase ?_
  · intro j u hj
    match j with
    | 0 =>
      simp at hj
      subst hj
      simpa [Addr.add, vI] using hc
    | j + 1 => simp at hj
  · intro u hu
    simp at hu
    subst hu
    rfl
  · intro v' w' h1 h2 _
    refine h v' w' ?_ ?_
    · unfold AppI
      simpa using h1
    · refine ⟨h2.os, h2.tape, h2.output, h2.size, fun k hk => h2.block k (by omega) ?_⟩
      intro e
      have := (World.ownsRow.lt hown k e.symm).1
      omega
/-- make([]int, 0, n). -/
theorem wpList_mk0 (w : World) {ops : Array Oper} {rest : List Oper} {o : Oper} {a : Act} {Q : Exit → Act → World → Prop}
    (hg : o.guard = none) (l c : Operand) (hop : o.op = Op.makeSlice 24 l c) (n : Nat) (hl : a.eval l = .int .i64 0) (hc : a.eval c = .int .i64 (n : Int)) (hn : n ≤ 1000000000000)
    (hK : ∀ v' w', AppI w.heap.size w' v' [] → Ext w w' → wpList Tryd.prog ops Q rest (a.put o.dst v') w') : wpList Tryd.prog ops Q (o :: rest) a w := by
  obtain ⟨i, hi, hz, hsz, hby⟩ := Tryd.infoIp
  refine wpList_plain hg fun K hK' => ?_
  obtain ⟨w', hrun, hown, hgr⟩ := run_make_own (P := Tryd.prog) w w.heap.size 24 3 i (.int .i64 0) 1 Tryd.underlying24 hi hz hsz .i64 .i64 n (by rw [hby]; omega) (by unfold maxLen; omega) (Nat.le_refl _)
  unfold Oper.wp
  simp [execOp, hop, hl, hc, hrun, Result.andThen]
  exact hK' _ _ (hK _ _ hown ⟨hgr.os, hgr.tape, hgr.output, hgr.size, fun k hk => hgr.block k hk (by simp)⟩)
end Go.Proofs.YtjpdebgejlfeaaaDoor
