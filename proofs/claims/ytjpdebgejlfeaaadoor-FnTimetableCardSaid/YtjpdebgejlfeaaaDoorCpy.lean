/- copied of the program: a copy of ints in new memory. startsOf; slices.Max. -/
import Derived.Test.YtjpdebgejlfeaaaDoorCpA
import Derived.Test.YtjpdebgejlfeaaaDoorMksp
import Derived.WalkLawsBesides
namespace Go.Proofs.YtjpdebgejlfeaaaDoor
open Go.RowKit

def startsL (ts : List Tk) : List Int := ts.map (·.s)
theorem startsL_at (ts : List Tk) {i : Nat} (hi : i < ts.length) : at0 (startsL ts) i = tkS ts i := by
  unfold at0 startsL tkS tk0
  rw [getD_lt _ _ (by simpa using hi), getD_lt _ _ hi, List.getElem_map]
set_option maxHeartbeats 1000000 in
theorem startsOf_any (v : Value) (ts : List Tk) (w : World) (hT : STasks w v ts) (h4 : ts.length ≤ 1000000) : Calls Tryd.prog 26 #[v] w (OwnRes (startsL ts) w) := by
  have hT0 := hide hT
  obtain ⟨A, c, rfl, -, -⟩ := hT.form
  clear hT
  go_enter Tryd.func26, Tryd.ntmps26
  go_wp2_with (at_make; go_must (refine wpList_mk0 _ rfl _ _ rfl ts.length rfl rfl (by omega) ?_); intro v1 w1 hA1 hx1)
  go_loopw [3, 11] (fun v i wr => ∃ k : Nat, k ≤ ts.length ∧ i = .int .i64 k ∧ Ext w wr ∧ AppI w.heap.size wr v (startsL (ts.take k))) (fun _ i _ => ts.length - (intOf i).toNat)
  case atStart => exact ⟨0, Nat.zero_le _, rfl, hx1, by simpa [startsL] using hA1⟩
  case round =>
    obtain ⟨k, hk, rfl, hx, hA⟩ := hrel
    have hA0 := hide hA
    obtain ⟨A1, c1, rfl, -⟩ := hA.form
    have hsz := hx.size
    clear hA
    by_cases hlt : k < ts.length
    · obtain ⟨b, off, rfl, hbl, c1, c2, c3⟩ := (hT0.out.ext hx).at_ hlt
      have hll : (startsL (ts.take k)).length ≤ 1000000 := by simp [startsL]; omega
      have hkk : startsL (ts.take (k + 1)) = startsL (ts.take k) ++ [tkS ts k] := by
        unfold startsL
        rw [List.take_add_one, List.map_append, List.getElem?_eq_getElem hlt, tkS, tk0, getD_lt _ _ hlt]; rfl
      have HK := hide hkk; clear hkk
      go_wp2_with (at_builtin; go_must (refine wpList_app1 _ rfl _ _ rfl w.heap.size _ (startsL (ts.take k)) (tkS ts k) _ 1 rfl rfl (hA0.out.ext (((Ext.refl _).alloc _).alloc _)) (by go_simp) (by omega) (by simp; omega) ?_); intro v' w2 hA2 hb2)
      go_roundw
      case rel => exact ⟨k + 1, by omega, by go_num, ((hx.alloc _).alloc _).below hb2, by rw [HK.out]; exact hA2⟩
      case measure => simp [intOf]; omega
    · have hkl : k = ts.length := by omega
      subst hkl
      rw [List.take_length] at hA0
      go_wp2
      go_ret
      rw [List.take_length]
      exact hA0.out.res hx (by simp [startsL]; omega)
/-- The greatest of the first k numbers. -/
def mxK (xs : List Int) : Nat → Int
  | 0 => at0 xs 0
  | k + 1 => max (mxK xs k) (at0 xs (k + 1))
def mxL (xs : List Int) : Int := mxK xs (xs.length - 1)
theorem mxK_le (xs : List Int) (c : Int) : ∀ k, mxK xs k ≤ c ↔ ∀ i, i ≤ k → at0 xs i ≤ c
  | 0 => by
    refine ⟨fun h i hi => ?_, fun h => h 0 (Nat.le_refl _)⟩
    obtain rfl : i = 0 := by omega
    exact h
  | k + 1 => by
    show max _ _ ≤ c ↔ _
    rw [Int.max_le, mxK_le xs c k]
    refine ⟨fun h i hi => ?_, fun h => ⟨fun i hi => h i (by omega), h _ (Nat.le_refl _)⟩⟩
    by_cases e : i = k + 1
    · subst e; exact h.2
    · exact h.1 i (by omega)
theorem mxK_if (xs : List Int) (k : Nat) : mxK xs (k + 1) = if mxK xs k < at0 xs (k + 1) then at0 xs (k + 1) else mxK xs k := by
  rw [mxK]; omega
end Go.Proofs.YtjpdebgejlfeaaaDoor
