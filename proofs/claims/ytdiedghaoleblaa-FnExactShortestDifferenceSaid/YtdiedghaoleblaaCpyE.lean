/- copyInts of the reference, of none too. -/
import Derived.Test.YtdiedghaoleblaaCpA
import Derived.Deep.CutBlock
import Derived.Deep.DeepCutAuto
namespace Go.Proofs.Ytdiedghaoleblaa
open Go.RowKit

/-- append of nil to ints of the call's own. -/
theorem wpList_app0 (w : World) {ops : Array Oper} {rest : List Oper} {o : Oper} {a : Act} {Q : Exit → Act → World → Prop} (hgd : o.guard = none) (s x : Operand)
    (ho : o.op = .call { callee := .builtin .append, args := #[s, x], argTypes := #[24, 24] })
    (base : Nat) (v : Value) (xs : List Int) (hs : a.eval s = v) (hx : a.eval x = .slice none 0 0) (hown : AppI base w v xs)
    (h : wpList Try.prog ops Q rest (a.put o.dst v) w) : wpList Try.prog ops Q (o :: rest) a w := by
  obtain ⟨i, hi', hz, hsz, hby⟩ := Try.infoIp
  have hrun := run_append_owned_none (P := Try.prog) w base 24 o.type 3 i 1 Try.underlying24 hi' v xs.length (xs.map vI) hown
  refine wpList_plain hgd fun K hK => ?_
  unfold Oper.wp
  simp [execOp, ho, resolve, invoke, builtin, hs, hx, hrun, Result.andThen]
  exact hK _ _ h
/-- A copy of ints, of none too. -/
def CpyGot (xs : List Int) (w : World) (e : Ending) (w' : World) : Prop := ∃ v, e = .returned v ∧ AppI w.heap.size w' v xs ∧ Ext w w'
set_option maxHeartbeats 1000000 in
theorem copyIntsE_any (v : Value) (xs : List Int) (w : World) (hS : SInts w v xs) (hn : ∀ n c, v = .slice none n c → n = 0 ∧ c = 0) : Calls Try.prog 55 #[v] w (CpyGot xs w) := by
  have hS0 := hide hS
  obtain ⟨A, cp, rfl, hl, hlen⟩ := hS.form
  cases A with
  | none =>
    obtain ⟨h0, rfl⟩ := hn _ _ rfl
    obtain rfl := List.length_eq_zero_iff.1 h0
    clear hS hn
    simp only [List.length_nil]
    go_enter Try.func55, Try.ntmps55
    go_wp2_with (at_builtin; go_must (refine wpList_app0 _ rfl _ _ rfl w.heap.size _ [] rfl rfl (AppI.empty w) ?_))
    go_ret
    exact ⟨_, rfl, AppI.empty w, (Ext.refl _).alloc _⟩
  | some ad =>
    clear hS hn
    go_enter Try.func55, Try.ntmps55
    go_wp2_with (at_builtin; go_must (refine wpList_appN _ rfl _ _ rfl w.heap.size _ [] xs ad cp rfl rfl (AppI.empty w) (hS0.out.ext ((Ext.refl _).alloc _)) (by simp; omega) (by simp) ?_); intro v' w2 hA2 hb2)
    go_ret
    exact ⟨_, rfl, hA2, ((Ext.refl _).alloc _).below hb2⟩
theorem AppI.low9 {base b1 : Nat} {w : World} {v : Value} {xs : List Int} (h : AppI base w v xs) (hb : b1 ≤ base) : AppI b1 w v xs := by
  refine ⟨h.1, ?_⟩
  rcases h.2 with hn | ⟨g, cap, cur, e, hg, rest⟩
  · exact .inl hn
  · exact .inr ⟨g, cap, cur, e, Nat.le_trans hb hg, rest⟩
end Go.Proofs.Ytdiedghaoleblaa
