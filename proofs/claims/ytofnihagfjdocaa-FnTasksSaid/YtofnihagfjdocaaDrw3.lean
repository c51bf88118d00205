/- Draws of the generator: a random task, and tasks. -/
import Derived.Test.YtofnihagfjdocaaDrw2
namespace Go.Proofs.Ytofnihagfjdocaa
open Go.RowKit

/-- A domain came. -/
def DomGot (w : World) (e : Ending) (w' : World) : Prop := ∃ d : Int, 0 ≤ d ∧ d ≤ 63 ∧ e = .returned (.int .i64 d) ∧ w = w'
set_option maxRecDepth 100000 in
set_option maxHeartbeats 4000000 in
theorem DomainRangeS_any (l h : Int) (w : World) : Calls Try.prog 90 #[.int .i64 l, .int .i64 h] w (DomGot w) := by
  go_enter Try.func90, Try.ntmps90
  go_wp2
  go_loop [5, 6] (fun d i => ∃ (k : Nat) (x : Int), k ≤ 6 ∧ i = .int .i64 k ∧ d = .int .i64 x ∧ 0 ≤ x ∧ x < 2 ^ k) (fun _ i => 6 - (intOf i).toNat)
  case atStart => exact ⟨0, 0, Nat.zero_le _, rfl, rfl, by omega, by decide⟩
  case round =>
    obtain ⟨k, x, hk, rfl, rfl, h0, h1⟩ := hrel
    by_cases hl : k < 6
    · rcases (by omega : k = 0 ∨ k = 1 ∨ k = 2 ∨ k = 3 ∨ k = 4 ∨ k = 5) with rfl | rfl | rfl | rfl | rfl | rfl
      · have h1' : x < 1 := h1
        clear h1
        go_wp2
        all_goals
          go_round
          case rel => first
            | exact ⟨1, x + 1, by omega, rfl, rfl, by omega, by show x + 1 < 2; omega⟩
            | exact ⟨1, x, by omega, rfl, rfl, by omega, by show x < 2; omega⟩
          case measure => simp [intOf]
      · have h1' : x < 2 := h1
        clear h1
        go_wp2
        all_goals
          go_round
          case rel => first
            | exact ⟨2, x + 2, by omega, rfl, rfl, by omega, by show x + 2 < 4; omega⟩
            | exact ⟨2, x, by omega, rfl, rfl, by omega, by show x < 4; omega⟩
          case measure => simp [intOf]
      · have h1' : x < 4 := h1
        clear h1
        go_wp2
        all_goals
          go_round
          case rel => first
            | exact ⟨3, x + 4, by omega, rfl, rfl, by omega, by show x + 4 < 8; omega⟩
            | exact ⟨3, x, by omega, rfl, rfl, by omega, by show x < 8; omega⟩
          case measure => simp [intOf]
      · have h1' : x < 8 := h1
        clear h1
        go_wp2
        all_goals
          go_round
          case rel => first
            | exact ⟨4, x + 8, by omega, rfl, rfl, by omega, by show x + 8 < 16; omega⟩
            | exact ⟨4, x, by omega, rfl, rfl, by omega, by show x < 16; omega⟩
          case measure => simp [intOf]
      · have h1' : x < 16 := h1
        clear h1
        go_wp2
        all_goals
          go_round
          case rel => first
            | exact ⟨5, x + 16, by omega, rfl, rfl, by omega, by show x + 16 < 32; omega⟩
            | exact ⟨5, x, by omega, rfl, rfl, by omega, by show x < 32; omega⟩
          case measure => simp [intOf]
      · have h1' : x < 32 := h1
        clear h1
        go_wp2
        all_goals
          go_round
          case rel => first
            | exact ⟨6, x + 32, by omega, rfl, rfl, by omega, by show x + 32 < 64; omega⟩
            | exact ⟨6, x, by omega, rfl, rfl, by omega, by show x < 64; omega⟩
          case measure => simp [intOf]
    · obtain rfl : k = 6 := by omega
      have h1' : x ≤ 63 := by have : x < 64 := h1; omega
      clear h1
      go_wp2
      go_ret
      exact ⟨x, h0, h1', rfl, rfl⟩
/-- A task came. -/
def TaskGot (w0 : World) (br N : Nat) (W : World) (e : Ending) (W' : World) : Prop :=
  ∃ s d m : Int, 0 ≤ s ∧ s ≤ 100 ∧ 0 ≤ d ∧ d ≤ 100 ∧ 0 ≤ m ∧ m ≤ 100 ∧ e = .returned (.agg #[.int .i64 s, .int .i64 d, .int .i64 m]) ∧ RdSt w0 br N W' ∧ Keep (fun k => k ≠ br) W W'
end Go.Proofs.Ytofnihagfjdocaa
