/- The walk of slices.Clone at []int. -/
import Derived.Test.YtjpdebgejlfeaaaDoorApp
import Derived.WalkLawsBesides
namespace Go.Proofs.YtjpdebgejlfeaaaDoor
open Go.RowKit

/-- append of a slice that came in to a slice of the call's own. -/
theorem wpList_appN (w : World) {ops : Array Oper} {rest : List Oper} {o : Oper} {a : Act} {Q : Exit → Act → World → Prop} (hgd : o.guard = none) (s x : Operand)
    (ho : o.op = .call { callee := .builtin .append, args := #[s, x], argTypes := #[24, 24] })
    (base : Nat) (v : Value) (xs ys : List Int) (ad : Addr) (c : Nat) (hs : a.eval s = v) (hx : a.eval x = .slice (some ad) ys.length c)
    (hown : AppI base w v xs) (hy : SInts w (.slice (some ad) ys.length c) ys) (hl : xs.length + ys.length ≤ 17592186044416) (hbase : base ≤ w.heap.size)
    (h : ∀ v' w', AppI base w' v' (xs ++ ys) → Below base w w' → wpList Tryd.prog ops Q rest (a.put o.dst v') w') : wpList Tryd.prog ops Q (o :: rest) a w := by
  obtain ⟨i, hi, hz, hsz, hby⟩ := Tryd.infoIp
  refine wpList_append_own w hgd s x 24 ho base 3 i (.int .i64 0) 1 8 Tryd.underlying24 hi hz hsz hby rfl (by omega) v xs.length (xs.map vI) hs hown ad ys.length c (ys.map vI) hx (by simp) ?_ ?_ (by unfold maxLen; omega) (by omega) hbase ?_
  · intro j u hj
    rw [List.getElem?_map] at hj
    obtain ⟨y, hy1, hy2⟩ := Option.map_eq_some_iff.1 hj
    obtain ⟨hjl, hje⟩ := List.getElem?_eq_some_iff.1 hy1
    obtain ⟨b, off, e, hb, hc⟩ := hy.at_ hjl
    have e := Option.some.inj e
    subst e
    have hadd : (⟨b, off, none⟩ : Addr).add j = ⟨b, off + j, none⟩ := by unfold Addr.add; split <;> simp_all
    rw [hadd, hc, ← hy2, ← hje]
    unfold at0 vI
    rw [getD_lt _ _ hjl]
  · intro u hu
    obtain ⟨y, _, rfl⟩ := List.mem_map.1 hu
    rfl
  · intro v' w' h1 h2 _
    refine h v' w' ?_ ?_
    · unfold AppI
      simpa using h1
    · refine ⟨h2.os, h2.tape, h2.output, h2.size, fun k hk => h2.block k (by omega) ?_⟩
      intro e
      have := (World.ownsRow.lt hown k e.symm).1
      omega

/-- The result is a slice of the call's own that reads as xs. -/
def AppRes (xs : List Int) (w : World) (e : Ending) (w' : World) : Prop := ∃ v, e = .returned v ∧ AppI w.heap.size w' v xs ∧ Ext w w'
set_option maxRecDepth 100000 in
theorem Clone_any (v : Value) (xs : List Int) (w : World) (hS : SInts w v xs) :
    Calls Tryd.prog 46 #[v] w (AppRes xs w) := by
  have hS0 := hide hS
  obtain ⟨A, cp, rfl, hl, hlen⟩ := hS.form
  cases A with
  | none =>
    have h0 : xs.length = 0 := by
      rcases Nat.eq_zero_or_pos xs.length with h | h
      · exact h
      · obtain ⟨b, off, e, -, -⟩ := hS.at_ h
        cases e
    obtain rfl := List.length_eq_zero_iff.1 h0
    clear hS
    have hnil := fun (W : World) => Lib.run_eql_slice_nil (P := Tryd.prog) W 24 3 none 0 cp 0 0 Tryd.underlying24
    go_enter Tryd.func46, Tryd.ntmps46
    go_wp2
    go_ret
    exact ⟨_, rfl, AppI.nil_ _ _, Ext.refl _⟩
  | some ad =>
    clear hS
    have hnil := fun (W : World) => Lib.run_eql_slice_nil (P := Tryd.prog) W 24 3 (some ad) xs.length cp 0 0 Tryd.underlying24
    go_enter Tryd.func46, Tryd.ntmps46
    go_wp2_with (at_builtin; go_must (refine wpList_appN _ rfl _ _ rfl w.heap.size _ [] xs ad cp rfl rfl (AppI.empty w) (hS0.out.ext ((Ext.refl _).alloc _)) (by simp; omega) (by simp) ?_); intro v' w2 hA2 hb2)
    go_ret
    exact ⟨_, rfl, hA2, ((Ext.refl _).alloc _).below hb2⟩
end Go.Proofs.YtjpdebgejlfeaaaDoor
/- copyInts of the reference. -/
namespace Go.Proofs.YtjpdebgejlfeaaaDoor
open Go.RowKit

end Go.Proofs.YtjpdebgejlfeaaaDoor
/- copied of the program: a copy of ints in new memory. -/
namespace Go.Proofs.YtjpdebgejlfeaaaDoor
open Go.RowKit

theorem Clip_any (A : Option Addr) (m c : Nat) (w : World) (hle : m ≤ c) (_hc : c ≤ 9223372036854775807) : Calls Tryd.prog 45 #[.slice A m c] w fun e w' => e = .returned (.slice A m m) ∧ w = w' := by
  go_enter Tryd.func45, Tryd.ntmps45
  go_wp2
  go_ret
  exact ⟨rfl, rfl⟩
theorem AppI.clip {w0 w : World} {A : Option Addr} {m c : Nat} {xs : List Int} (h : AppI w0.heap.size w (.slice A m c) xs) (hx : Ext w0 w) (hb : xs.length * 8 ≤ 140737488355328) : m = xs.length ∧ m ≤ c ∧ c ≤ 9223372036854775807 ∧ OwnRes xs w0 (.returned (.slice A m m)) w := by
  have h0 := h
  rcases h.2 with ⟨h1, h2⟩ | ⟨g, cap, cur, h1, hg, hh, hnc, hm, hcs, htk⟩
  · have : xs = [] := List.length_eq_zero_iff.1 h2
    subst this
    injection h1 with e1 e2 e3
    subst e1; subst e2; subst e3
    exact ⟨rfl, Nat.le_refl _, by omega, OwnRes.nil_ rfl hx⟩
  · injection h1 with e1 e2 e3
    subst e1; subst e2; subst e3
    unfold maxLen at hm
    refine ⟨rfl, hnc, by omega, ?_⟩
    obtain ⟨A', c', b', m', f', er, -, -, hb', ho', -⟩ := h0.res hx hb
    injection er with er
    injection er with e1 e2 e3
    exact ⟨_, xs.length, b', m', f', rfl, Nat.le_refl _, hb, hb', e1 ▸ ho', hx⟩
set_option maxHeartbeats 1000000 in
theorem copied_any (v : Value) (xs : List Int) (w : World) (hS : SInts w v xs) : Calls Tryd.prog 28 #[v] w (OwnRes xs w) := by
  have hb := hS.bytes
  have hS0 := hide hS
  obtain ⟨A, cp, rfl, hl, hlen⟩ := hS.form
  clear hS
  go_enter Tryd.func28, Tryd.ntmps28
  go_wp2_with fail
  refine (Clone_any _ xs _ hS0.out).mono ?_
  rintro e w1 ⟨v1, rfl, hA1, hx1⟩
  obtain ⟨A1, c1, rfl, -⟩ := hA1.form
  obtain ⟨-, q1, q2, hres⟩ := hA1.clip hx1 hb
  have HRES := hide hres
  clear hA1 hres hx1
  go_wp2_with fail
  refine (Clip_any A1 xs.length c1 _ q1 q2).mono ?_
  rintro e w2 ⟨rfl, rfl⟩
  go_wp2
  go_ret
  exact HRES.out
end Go.Proofs.YtjpdebgejlfeaaaDoor
