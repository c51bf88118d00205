/- The walk of slices.Clone at []int. -/
import Derived.Test.YtllgicpiddapeaaGreatDoorApp
namespace Go.Proofs.YtllgicpiddapeaaGreatDoor
open Go.RowKit

/-- append of a slice that came in to a slice of the call's own. -/
theorem wpList_appN (w : World) {ops : Array Oper} {rest : List Oper} {o : Oper} {a : Act} {Q : Exit → Act → World → Prop} (hgd : o.guard = none) (s x : Operand)
    (ho : o.op = .call { callee := .builtin .append, args := #[s, x], argTypes := #[22, 22] })
    (base : Nat) (v : Value) (xs ys : List Int) (ad : Addr) (c : Nat) (hs : a.eval s = v) (hx : a.eval x = .slice (some ad) ys.length c)
    (hown : AppI base w v xs) (hy : SInts w (.slice (some ad) ys.length c) ys) (hl : xs.length + ys.length ≤ 17592186044416) (hbase : base ≤ w.heap.size)
    (h : ∀ v' w', AppI base w' v' (xs ++ ys) → Below base w w' → wpList Tryz.prog ops Q rest (a.put o.dst v') w') : wpList Tryz.prog ops Q (o :: rest) a w := by
  obtain ⟨i, hi, hz, hsz, hby⟩ := Tryz.infoIp
  refine wpList_append_own w hgd s x 22 ho base 3 i (.int .i64 0) 1 8 Tryz.underlying22 hi hz hsz hby rfl (by omega) v xs.length (xs.map vI) hs hown ad ys.length c (ys.map vI) hx (by simp) ?_ ?_ (by unfold maxLen; omega) (by omega) hbase ?_
  · intro j u hj
    rw [List.getElem?_map] at hj
    obtain ⟨y, hy1, hy2⟩ := Option.map_eq_some_iff.1 hj
    obtain ⟨hjl, hje⟩ := List.getElem?_eq_some_iff.1 hy1
    obtain ⟨b, off, e, hb, hc⟩ := hy.at_ hjl
    have e := Option.some.inj e
    subst e
    have hadd : (⟨b, off, none⟩ : Addr).add j = ⟨b, off + j, none⟩ := by unfold Addr.add; split <;> simp_all
    rw [hadd, hc, ← hy2, ← hje]
    unfold at0 vI
    rw [getD_lt _ _ hjl]
  · intro u hu
    obtain ⟨y, _, rfl⟩ := List.mem_map.1 hu
    rfl
  · intro v' w' h1 h2 _
    refine h v' w' ?_ ?_
    · unfold AppI
      simpa using h1
    · refine ⟨h2.os, h2.tape, h2.output, h2.size, fun k hk => h2.block k (by omega) ?_⟩
      intro e
      have := (World.ownsRow.lt hown k e.symm).1
      omega

/-- The result is a slice of the call's own that reads as xs. -/
def AppRes (xs : List Int) (w : World) (e : Ending) (w' : World) : Prop := ∃ v, e = .returned v ∧ AppI w.heap.size w' v xs ∧ Ext w w'
set_option maxRecDepth 100000 in
theorem Clone_any (v : Value) (xs : List Int) (w : World) (hS : SInts w v xs) :
    Calls Tryz.prog 95 #[v] w (AppRes xs w) := by
  have hS0 := hide hS
  obtain ⟨A, cp, rfl, hl, hlen⟩ := hS.form
  cases A with
  | none =>
    have h0 : xs.length = 0 := by
      rcases Nat.eq_zero_or_pos xs.length with h | h
      · exact h
      · obtain ⟨b, off, e, -, -⟩ := hS.at_ h
        cases e
    obtain rfl := List.length_eq_zero_iff.1 h0
    clear hS
    have hnil := fun (W : World) => Lib.run_eql_slice_nil (P := Tryz.prog) W 22 3 none 0 cp 0 0 Tryz.underlying22
    go_enter Tryz.func95, Tryz.ntmps95
    go_wp2
    go_ret
    exact ⟨_, rfl, AppI.nil_ _ _, Ext.refl _⟩
  | some ad =>
    clear hS
    have hnil := fun (W : World) => Lib.run_eql_slice_nil (P := Tryz.prog) W 22 3 (some ad) xs.length cp 0 0 Tryz.underlying22
    go_enter Tryz.func95, Tryz.ntmps95
    go_wp2_with (at_builtin; go_must (refine wpList_appN _ rfl _ _ rfl w.heap.size _ [] xs ad cp rfl rfl (AppI.empty w) (hS0.out.ext ((Ext.refl _).alloc _)) (by simp; omega) (by simp) ?_); intro v' w2 hA2 hb2)
    go_ret
    exact ⟨_, rfl, hA2, ((Ext.refl _).alloc _).below hb2⟩
end Go.Proofs.YtllgicpiddapeaaGreatDoor
