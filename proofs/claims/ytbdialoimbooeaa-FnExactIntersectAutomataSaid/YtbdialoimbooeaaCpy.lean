/- copied of the program: a copy of ints in new memory. startsOf; slices.Max. -/
import Derived.Test.YtbdialoimbooeaaClone
import Derived.Test.YtbdialoimbooeaaMksp
import Derived.WalkLawsBesides
namespace Go.Proofs.Ytbdialoimbooeaa
open Go.RowKit

theorem Clip_any (A : Option Addr) (m c : Nat) (w : World) (hle : m ≤ c) (_hc : c ≤ 9223372036854775807) : Calls Try.prog 59 #[.slice A m c] w fun e w' => e = .returned (.slice A m m) ∧ w = w' := by
  go_enter Try.func59, Try.ntmps59
  go_wp2
  go_ret
  exact ⟨rfl, rfl⟩
theorem AppI.clip {w0 w : World} {A : Option Addr} {m c : Nat} {xs : List Int} (h : AppI w0.heap.size w (.slice A m c) xs) (hx : Ext w0 w) (hb : xs.length * 8 ≤ 140737488355328) : m = xs.length ∧ m ≤ c ∧ c ≤ 9223372036854775807 ∧ OwnRes xs w0 (.returned (.slice A m m)) w := by
  have h0 := h
  rcases h.2 with ⟨h1, h2⟩ | ⟨g, cap, cur, h1, hg, hh, hnc, hm, hcs, htk⟩
  · have : xs = [] := List.length_eq_zero_iff.1 h2
    subst this
    injection h1 with e1 e2 e3
    subst e1; subst e2; subst e3
    exact ⟨rfl, Nat.le_refl _, by omega, OwnRes.nil_ rfl hx⟩
  · injection h1 with e1 e2 e3
    subst e1; subst e2; subst e3
    unfold maxLen at hm
    refine ⟨rfl, hnc, by omega, ?_⟩
    obtain ⟨A', c', b', m', f', er, -, -, hb', ho', -⟩ := h0.res hx hb
    injection er with er
    injection er with e1 e2 e3
    exact ⟨_, xs.length, b', m', f', rfl, Nat.le_refl _, hb, hb', e1 ▸ ho', hx⟩
set_option maxHeartbeats 1000000 in
theorem copied_any (v : Value) (xs : List Int) (w : World) (hS : SInts w v xs) : Calls Try.prog 43 #[v] w (OwnRes xs w) := by
  have hb := hS.bytes
  have hS0 := hide hS
  obtain ⟨A, cp, rfl, hl, hlen⟩ := hS.form
  clear hS
  go_enter Try.func43, Try.ntmps43
  go_wp2_with fail
  refine (Clone_any _ xs _ hS0.out).mono ?_
  rintro e w1 ⟨v1, rfl, hA1, hx1⟩
  obtain ⟨A1, c1, rfl, -⟩ := hA1.form
  obtain ⟨-, q1, q2, hres⟩ := hA1.clip hx1 hb
  have HRES := hide hres
  clear hA1 hres hx1
  go_wp2_with fail
  refine (Clip_any A1 xs.length c1 _ q1 q2).mono ?_
  rintro e w2 ⟨rfl, rfl⟩
  go_wp2
  go_ret
  exact HRES.out
def startsL (ts : List Tk) : List Int := ts.map (·.s)
theorem startsL_at (ts : List Tk) {i : Nat} (hi : i < ts.length) : at0 (startsL ts) i = tkS ts i := by
  unfold at0 startsL tkS tk0
  rw [getD_lt _ _ (by simpa using hi), getD_lt _ _ hi, List.getElem_map]
/-- The greatest of the first k numbers. -/
def mxK (xs : List Int) : Nat → Int
  | 0 => at0 xs 0
  | k + 1 => max (mxK xs k) (at0 xs (k + 1))
def mxL (xs : List Int) : Int := mxK xs (xs.length - 1)
theorem mxK_le (xs : List Int) (c : Int) : ∀ k, mxK xs k ≤ c ↔ ∀ i, i ≤ k → at0 xs i ≤ c
  | 0 => by
    refine ⟨fun h i hi => ?_, fun h => h 0 (Nat.le_refl _)⟩
    obtain rfl : i = 0 := by omega
    exact h
  | k + 1 => by
    show max _ _ ≤ c ↔ _
    rw [Int.max_le, mxK_le xs c k]
    refine ⟨fun h i hi => ?_, fun h => ⟨fun i hi => h i (by omega), h _ (Nat.le_refl _)⟩⟩
    by_cases e : i = k + 1
    · subst e; exact h.2
    · exact h.1 i (by omega)
theorem mxK_if (xs : List Int) (k : Nat) : mxK xs (k + 1) = if mxK xs k < at0 xs (k + 1) then at0 xs (k + 1) else mxK xs k := by
  rw [mxK]; omega
end Go.Proofs.Ytbdialoimbooeaa
