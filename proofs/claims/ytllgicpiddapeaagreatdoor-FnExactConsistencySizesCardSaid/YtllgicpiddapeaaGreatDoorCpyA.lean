/- copied of the program: a copy of ints in new memory. -/
import Derived.Test.YtllgicpiddapeaaGreatDoorClone
import Derived.WalkLawsBesides
namespace Go.Proofs.YtllgicpiddapeaaGreatDoor
open Go.RowKit

theorem Clip_any (A : Option Addr) (m c : Nat) (w : World) (hle : m ≤ c) (_hc : c ≤ 9223372036854775807) : Calls Tryz.prog 94 #[.slice A m c] w fun e w' => e = .returned (.slice A m m) ∧ w = w' := by
  go_enter Tryz.func94, Tryz.ntmps94
  go_wp2
  go_ret
  exact ⟨rfl, rfl⟩
theorem AppI.clip {w0 w : World} {A : Option Addr} {m c : Nat} {xs : List Int} (h : AppI w0.heap.size w (.slice A m c) xs) (hx : Ext w0 w) (hb : xs.length * 8 ≤ 140737488355328) : m = xs.length ∧ m ≤ c ∧ c ≤ 9223372036854775807 ∧ OwnRes xs w0 (.returned (.slice A m m)) w := by
  have h0 := h
  rcases h.2 with ⟨h1, h2⟩ | ⟨g, cap, cur, h1, hg, hh, hnc, hm, hcs, htk⟩
  · have : xs = [] := List.length_eq_zero_iff.1 h2
    subst this
    injection h1 with e1 e2 e3
    subst e1; subst e2; subst e3
    exact ⟨rfl, Nat.le_refl _, by omega, OwnRes.nil_ rfl hx⟩
  · injection h1 with e1 e2 e3
    subst e1; subst e2; subst e3
    unfold maxLen at hm
    refine ⟨rfl, hnc, by omega, ?_⟩
    obtain ⟨A', c', b', m', f', er, -, -, hb', ho', -⟩ := h0.res hx hb
    injection er with er
    injection er with e1 e2 e3
    exact ⟨_, xs.length, b', m', f', rfl, Nat.le_refl _, hb, hb', e1 ▸ ho', hx⟩
set_option maxHeartbeats 1000000 in
theorem copied_any (v : Value) (xs : List Int) (w : World) (hS : SInts w v xs) : Calls Tryz.prog 67 #[v] w (OwnRes xs w) := by
  have hb := hS.bytes
  have hS0 := hide hS
  obtain ⟨A, cp, rfl, hl, hlen⟩ := hS.form
  clear hS
  go_enter Tryz.func67, Tryz.ntmps67
  go_wp2_with fail
  refine (Clone_any _ xs _ hS0.out).mono ?_
  rintro e w1 ⟨v1, rfl, hA1, hx1⟩
  obtain ⟨A1, c1, rfl, -⟩ := hA1.form
  obtain ⟨-, q1, q2, hres⟩ := hA1.clip hx1 hb
  have HRES := hide hres
  clear hA1 hres hx1
  go_wp2_with fail
  refine (Clip_any A1 xs.length c1 _ q1 q2).mono ?_
  rintro e w2 ⟨rfl, rfl⟩
  go_wp2
  go_ret
  exact HRES.out
end Go.Proofs.YtllgicpiddapeaaGreatDoor
