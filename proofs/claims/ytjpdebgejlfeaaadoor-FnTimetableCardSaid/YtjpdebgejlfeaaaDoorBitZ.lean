/- The walks of bits.Len and bits.TrailingZeros at 1..63. -/
import Derived.Test.YtjpdebgejlfeaaaDoorBase
namespace Go.Proofs.YtjpdebgejlfeaaaDoor
open Go.RowKit

/-- The greatest and the least member. -/
def topB (d : Nat) : Nat := Nat.log2 d
def lowB (d : Nat) : Nat := ((List.range 6).find? (fun i => d.testBit i)).getD 0
theorem dom_cases {d : Nat} (h1 : 1 ≤ d) (h2 : d ≤ 63) : d = 1 ∨ d = 2 ∨ d = 3 ∨ d = 4 ∨ d = 5 ∨ d = 6 ∨ d = 7 ∨ d = 8 ∨ d = 9 ∨ d = 10 ∨ d = 11 ∨ d = 12 ∨ d = 13 ∨ d = 14 ∨ d = 15 ∨ d = 16 ∨ d = 17 ∨ d = 18 ∨ d = 19 ∨ d = 20 ∨ d = 21 ∨ d = 22 ∨ d = 23 ∨ d = 24 ∨ d = 25 ∨ d = 26 ∨ d = 27 ∨ d = 28 ∨ d = 29 ∨ d = 30 ∨ d = 31 ∨ d = 32 ∨ d = 33 ∨ d = 34 ∨ d = 35 ∨ d = 36 ∨ d = 37 ∨ d = 38 ∨ d = 39 ∨ d = 40 ∨ d = 41 ∨ d = 42 ∨ d = 43 ∨ d = 44 ∨ d = 45 ∨ d = 46 ∨ d = 47 ∨ d = 48 ∨ d = 49 ∨ d = 50 ∨ d = 51 ∨ d = 52 ∨ d = 53 ∨ d = 54 ∨ d = 55 ∨ d = 56 ∨ d = 57 ∨ d = 58 ∨ d = 59 ∨ d = 60 ∨ d = 61 ∨ d = 62 ∨ d = 63 := by omega
set_option maxRecDepth 100000 in
set_option maxHeartbeats 40000000 in
theorem Len64_any (d : Nat) (h1 : 1 ≤ d) (h2 : d ≤ 63) (w : World) :
    Calls Tryd.prog 79 #[.int .u64 d] w fun e w' => e = .returned (.int .i64 (topB d + 1 : Nat)) ∧ w = w' := by
  rcases dom_cases h1 h2 with rfl | rfl | rfl | rfl | rfl | rfl | rfl | rfl | rfl | rfl | rfl | rfl | rfl | rfl | rfl | rfl | rfl | rfl | rfl | rfl | rfl | rfl | rfl | rfl | rfl | rfl | rfl | rfl | rfl | rfl | rfl | rfl | rfl | rfl | rfl | rfl | rfl | rfl | rfl | rfl | rfl | rfl | rfl | rfl | rfl | rfl | rfl | rfl | rfl | rfl | rfl | rfl | rfl | rfl | rfl | rfl | rfl | rfl | rfl | rfl | rfl | rfl | rfl
  all_goals
    clear h1 h2
    go_enter Tryd.func79, Tryd.ntmps79
    go_wp2
    go_ret
    exact ⟨by kernel_rfl, rfl⟩
theorem Len_any (d : Nat) (h1 : 1 ≤ d) (h2 : d ≤ 63) (w : World) :
    Calls Tryd.prog 68 #[.int .u64 d] w fun e w' => e = .returned (.int .i64 (topB d + 1 : Nat)) ∧ w = w' := by
  go_enter Tryd.func68, Tryd.ntmps68
  go_wp2_with (go_at_call 79; refine (Len64_any d h1 h2 _).mono ?_; rintro e w' ⟨rfl, rfl⟩)
  go_ret
  exact ⟨rfl, rfl⟩
/-- The cells of the table that 1..63 come to. -/
def TzTab (w : World) : Prop := w.cell? ⟨1, 0, none⟩ = some (.int .u8 0) ∧ w.cell? ⟨1, 1, none⟩ = some (.int .u8 1) ∧ w.cell? ⟨1, 3, none⟩ = some (.int .u8 2) ∧ w.cell? ⟨1, 7, none⟩ = some (.int .u8 3) ∧ w.cell? ⟨1, 15, none⟩ = some (.int .u8 4) ∧ w.cell? ⟨1, 31, none⟩ = some (.int .u8 5)
set_option maxRecDepth 100000 in
set_option maxHeartbeats 40000000 in
theorem TrailingZeros64_any (d : Nat) (h1 : 1 ≤ d) (h2 : d ≤ 63) (w : World) (hT : TzTab w) :
    Calls Tryd.prog 81 #[.int .u64 d] w fun e w' => e = .returned (.int .i64 (lowB d : Nat)) ∧ w = w' := by
  obtain ⟨t0, t1, t2, t3, t4, t5⟩ := hT
  rcases dom_cases h1 h2 with rfl | rfl | rfl | rfl | rfl | rfl | rfl | rfl | rfl | rfl | rfl | rfl | rfl | rfl | rfl | rfl | rfl | rfl | rfl | rfl | rfl | rfl | rfl | rfl | rfl | rfl | rfl | rfl | rfl | rfl | rfl | rfl | rfl | rfl | rfl | rfl | rfl | rfl | rfl | rfl | rfl | rfl | rfl | rfl | rfl | rfl | rfl | rfl | rfl | rfl | rfl | rfl | rfl | rfl | rfl | rfl | rfl | rfl | rfl | rfl | rfl | rfl | rfl
  all_goals clear h1 h2
  · have hidx : IntKind.u64.wrap (bits BinOp.and IntKind.u64 1 (IntKind.u64.wrap (-1)) * 285870213051353865) / 288230376151711744 = 0 := by kernel_rfl
    go_enter Tryd.func81, Tryd.ntmps81
    go_wp2
    go_ret
    exact ⟨by kernel_rfl, rfl⟩
  · have hidx : IntKind.u64.wrap (bits BinOp.and IntKind.u64 2 (IntKind.u64.wrap (-2)) * 285870213051353865) / 288230376151711744 = 1 := by kernel_rfl
    go_enter Tryd.func81, Tryd.ntmps81
    go_wp2
    go_ret
    exact ⟨by kernel_rfl, rfl⟩
  · have hidx : IntKind.u64.wrap (bits BinOp.and IntKind.u64 3 (IntKind.u64.wrap (-3)) * 285870213051353865) / 288230376151711744 = 0 := by kernel_rfl
    go_enter Tryd.func81, Tryd.ntmps81
    go_wp2
    go_ret
    exact ⟨by kernel_rfl, rfl⟩
  · have hidx : IntKind.u64.wrap (bits BinOp.and IntKind.u64 4 (IntKind.u64.wrap (-4)) * 285870213051353865) / 288230376151711744 = 3 := by kernel_rfl
    go_enter Tryd.func81, Tryd.ntmps81
    go_wp2
    go_ret
    exact ⟨by kernel_rfl, rfl⟩
  · have hidx : IntKind.u64.wrap (bits BinOp.and IntKind.u64 5 (IntKind.u64.wrap (-5)) * 285870213051353865) / 288230376151711744 = 0 := by kernel_rfl
    go_enter Tryd.func81, Tryd.ntmps81
    go_wp2
    go_ret
    exact ⟨by kernel_rfl, rfl⟩
  · have hidx : IntKind.u64.wrap (bits BinOp.and IntKind.u64 6 (IntKind.u64.wrap (-6)) * 285870213051353865) / 288230376151711744 = 1 := by kernel_rfl
    go_enter Tryd.func81, Tryd.ntmps81
    go_wp2
    go_ret
    exact ⟨by kernel_rfl, rfl⟩
  · have hidx : IntKind.u64.wrap (bits BinOp.and IntKind.u64 7 (IntKind.u64.wrap (-7)) * 285870213051353865) / 288230376151711744 = 0 := by kernel_rfl
    go_enter Tryd.func81, Tryd.ntmps81
    go_wp2
    go_ret
    exact ⟨by kernel_rfl, rfl⟩
  · have hidx : IntKind.u64.wrap (bits BinOp.and IntKind.u64 8 (IntKind.u64.wrap (-8)) * 285870213051353865) / 288230376151711744 = 7 := by kernel_rfl
    go_enter Tryd.func81, Tryd.ntmps81
    go_wp2
    go_ret
    exact ⟨by kernel_rfl, rfl⟩
  · have hidx : IntKind.u64.wrap (bits BinOp.and IntKind.u64 9 (IntKind.u64.wrap (-9)) * 285870213051353865) / 288230376151711744 = 0 := by kernel_rfl
    go_enter Tryd.func81, Tryd.ntmps81
    go_wp2
    go_ret
    exact ⟨by kernel_rfl, rfl⟩
  · have hidx : IntKind.u64.wrap (bits BinOp.and IntKind.u64 10 (IntKind.u64.wrap (-10)) * 285870213051353865) / 288230376151711744 = 1 := by kernel_rfl
    go_enter Tryd.func81, Tryd.ntmps81
    go_wp2
    go_ret
    exact ⟨by kernel_rfl, rfl⟩
  · have hidx : IntKind.u64.wrap (bits BinOp.and IntKind.u64 11 (IntKind.u64.wrap (-11)) * 285870213051353865) / 288230376151711744 = 0 := by kernel_rfl
    go_enter Tryd.func81, Tryd.ntmps81
    go_wp2
    go_ret
    exact ⟨by kernel_rfl, rfl⟩
  · have hidx : IntKind.u64.wrap (bits BinOp.and IntKind.u64 12 (IntKind.u64.wrap (-12)) * 285870213051353865) / 288230376151711744 = 3 := by kernel_rfl
    go_enter Tryd.func81, Tryd.ntmps81
    go_wp2
    go_ret
    exact ⟨by kernel_rfl, rfl⟩
  · have hidx : IntKind.u64.wrap (bits BinOp.and IntKind.u64 13 (IntKind.u64.wrap (-13)) * 285870213051353865) / 288230376151711744 = 0 := by kernel_rfl
    go_enter Tryd.func81, Tryd.ntmps81
    go_wp2
    go_ret
    exact ⟨by kernel_rfl, rfl⟩
  · have hidx : IntKind.u64.wrap (bits BinOp.and IntKind.u64 14 (IntKind.u64.wrap (-14)) * 285870213051353865) / 288230376151711744 = 1 := by kernel_rfl
    go_enter Tryd.func81, Tryd.ntmps81
    go_wp2
    go_ret
    exact ⟨by kernel_rfl, rfl⟩
  · have hidx : IntKind.u64.wrap (bits BinOp.and IntKind.u64 15 (IntKind.u64.wrap (-15)) * 285870213051353865) / 288230376151711744 = 0 := by kernel_rfl
    go_enter Tryd.func81, Tryd.ntmps81
    go_wp2
    go_ret
    exact ⟨by kernel_rfl, rfl⟩
  · have hidx : IntKind.u64.wrap (bits BinOp.and IntKind.u64 16 (IntKind.u64.wrap (-16)) * 285870213051353865) / 288230376151711744 = 15 := by kernel_rfl
    go_enter Tryd.func81, Tryd.ntmps81
    go_wp2
    go_ret
    exact ⟨by kernel_rfl, rfl⟩
  · have hidx : IntKind.u64.wrap (bits BinOp.and IntKind.u64 17 (IntKind.u64.wrap (-17)) * 285870213051353865) / 288230376151711744 = 0 := by kernel_rfl
    go_enter Tryd.func81, Tryd.ntmps81
    go_wp2
    go_ret
    exact ⟨by kernel_rfl, rfl⟩
  · have hidx : IntKind.u64.wrap (bits BinOp.and IntKind.u64 18 (IntKind.u64.wrap (-18)) * 285870213051353865) / 288230376151711744 = 1 := by kernel_rfl
    go_enter Tryd.func81, Tryd.ntmps81
    go_wp2
    go_ret
    exact ⟨by kernel_rfl, rfl⟩
  · have hidx : IntKind.u64.wrap (bits BinOp.and IntKind.u64 19 (IntKind.u64.wrap (-19)) * 285870213051353865) / 288230376151711744 = 0 := by kernel_rfl
    go_enter Tryd.func81, Tryd.ntmps81
    go_wp2
    go_ret
    exact ⟨by kernel_rfl, rfl⟩
  · have hidx : IntKind.u64.wrap (bits BinOp.and IntKind.u64 20 (IntKind.u64.wrap (-20)) * 285870213051353865) / 288230376151711744 = 3 := by kernel_rfl
    go_enter Tryd.func81, Tryd.ntmps81
    go_wp2
    go_ret
    exact ⟨by kernel_rfl, rfl⟩
  · have hidx : IntKind.u64.wrap (bits BinOp.and IntKind.u64 21 (IntKind.u64.wrap (-21)) * 285870213051353865) / 288230376151711744 = 0 := by kernel_rfl
    go_enter Tryd.func81, Tryd.ntmps81
    go_wp2
    go_ret
    exact ⟨by kernel_rfl, rfl⟩
  · have hidx : IntKind.u64.wrap (bits BinOp.and IntKind.u64 22 (IntKind.u64.wrap (-22)) * 285870213051353865) / 288230376151711744 = 1 := by kernel_rfl
    go_enter Tryd.func81, Tryd.ntmps81
    go_wp2
    go_ret
    exact ⟨by kernel_rfl, rfl⟩
  · have hidx : IntKind.u64.wrap (bits BinOp.and IntKind.u64 23 (IntKind.u64.wrap (-23)) * 285870213051353865) / 288230376151711744 = 0 := by kernel_rfl
    go_enter Tryd.func81, Tryd.ntmps81
    go_wp2
    go_ret
    exact ⟨by kernel_rfl, rfl⟩
  · have hidx : IntKind.u64.wrap (bits BinOp.and IntKind.u64 24 (IntKind.u64.wrap (-24)) * 285870213051353865) / 288230376151711744 = 7 := by kernel_rfl
    go_enter Tryd.func81, Tryd.ntmps81
    go_wp2
    go_ret
    exact ⟨by kernel_rfl, rfl⟩
  · have hidx : IntKind.u64.wrap (bits BinOp.and IntKind.u64 25 (IntKind.u64.wrap (-25)) * 285870213051353865) / 288230376151711744 = 0 := by kernel_rfl
    go_enter Tryd.func81, Tryd.ntmps81
    go_wp2
    go_ret
    exact ⟨by kernel_rfl, rfl⟩
  · have hidx : IntKind.u64.wrap (bits BinOp.and IntKind.u64 26 (IntKind.u64.wrap (-26)) * 285870213051353865) / 288230376151711744 = 1 := by kernel_rfl
    go_enter Tryd.func81, Tryd.ntmps81
    go_wp2
    go_ret
    exact ⟨by kernel_rfl, rfl⟩
  · have hidx : IntKind.u64.wrap (bits BinOp.and IntKind.u64 27 (IntKind.u64.wrap (-27)) * 285870213051353865) / 288230376151711744 = 0 := by kernel_rfl
    go_enter Tryd.func81, Tryd.ntmps81
    go_wp2
    go_ret
    exact ⟨by kernel_rfl, rfl⟩
  · have hidx : IntKind.u64.wrap (bits BinOp.and IntKind.u64 28 (IntKind.u64.wrap (-28)) * 285870213051353865) / 288230376151711744 = 3 := by kernel_rfl
    go_enter Tryd.func81, Tryd.ntmps81
    go_wp2
    go_ret
    exact ⟨by kernel_rfl, rfl⟩
  · have hidx : IntKind.u64.wrap (bits BinOp.and IntKind.u64 29 (IntKind.u64.wrap (-29)) * 285870213051353865) / 288230376151711744 = 0 := by kernel_rfl
    go_enter Tryd.func81, Tryd.ntmps81
    go_wp2
    go_ret
    exact ⟨by kernel_rfl, rfl⟩
  · have hidx : IntKind.u64.wrap (bits BinOp.and IntKind.u64 30 (IntKind.u64.wrap (-30)) * 285870213051353865) / 288230376151711744 = 1 := by kernel_rfl
    go_enter Tryd.func81, Tryd.ntmps81
    go_wp2
    go_ret
    exact ⟨by kernel_rfl, rfl⟩
  · have hidx : IntKind.u64.wrap (bits BinOp.and IntKind.u64 31 (IntKind.u64.wrap (-31)) * 285870213051353865) / 288230376151711744 = 0 := by kernel_rfl
    go_enter Tryd.func81, Tryd.ntmps81
    go_wp2
    go_ret
    exact ⟨by kernel_rfl, rfl⟩
  · have hidx : IntKind.u64.wrap (bits BinOp.and IntKind.u64 32 (IntKind.u64.wrap (-32)) * 285870213051353865) / 288230376151711744 = 31 := by kernel_rfl
    go_enter Tryd.func81, Tryd.ntmps81
    go_wp2
    go_ret
    exact ⟨by kernel_rfl, rfl⟩
  · have hidx : IntKind.u64.wrap (bits BinOp.and IntKind.u64 33 (IntKind.u64.wrap (-33)) * 285870213051353865) / 288230376151711744 = 0 := by kernel_rfl
    go_enter Tryd.func81, Tryd.ntmps81
    go_wp2
    go_ret
    exact ⟨by kernel_rfl, rfl⟩
  · have hidx : IntKind.u64.wrap (bits BinOp.and IntKind.u64 34 (IntKind.u64.wrap (-34)) * 285870213051353865) / 288230376151711744 = 1 := by kernel_rfl
    go_enter Tryd.func81, Tryd.ntmps81
    go_wp2
    go_ret
    exact ⟨by kernel_rfl, rfl⟩
  · have hidx : IntKind.u64.wrap (bits BinOp.and IntKind.u64 35 (IntKind.u64.wrap (-35)) * 285870213051353865) / 288230376151711744 = 0 := by kernel_rfl
    go_enter Tryd.func81, Tryd.ntmps81
    go_wp2
    go_ret
    exact ⟨by kernel_rfl, rfl⟩
  · have hidx : IntKind.u64.wrap (bits BinOp.and IntKind.u64 36 (IntKind.u64.wrap (-36)) * 285870213051353865) / 288230376151711744 = 3 := by kernel_rfl
    go_enter Tryd.func81, Tryd.ntmps81
    go_wp2
    go_ret
    exact ⟨by kernel_rfl, rfl⟩
  · have hidx : IntKind.u64.wrap (bits BinOp.and IntKind.u64 37 (IntKind.u64.wrap (-37)) * 285870213051353865) / 288230376151711744 = 0 := by kernel_rfl
    go_enter Tryd.func81, Tryd.ntmps81
    go_wp2
    go_ret
    exact ⟨by kernel_rfl, rfl⟩
  · have hidx : IntKind.u64.wrap (bits BinOp.and IntKind.u64 38 (IntKind.u64.wrap (-38)) * 285870213051353865) / 288230376151711744 = 1 := by kernel_rfl
    go_enter Tryd.func81, Tryd.ntmps81
    go_wp2
    go_ret
    exact ⟨by kernel_rfl, rfl⟩
  · have hidx : IntKind.u64.wrap (bits BinOp.and IntKind.u64 39 (IntKind.u64.wrap (-39)) * 285870213051353865) / 288230376151711744 = 0 := by kernel_rfl
    go_enter Tryd.func81, Tryd.ntmps81
    go_wp2
    go_ret
    exact ⟨by kernel_rfl, rfl⟩
  · have hidx : IntKind.u64.wrap (bits BinOp.and IntKind.u64 40 (IntKind.u64.wrap (-40)) * 285870213051353865) / 288230376151711744 = 7 := by kernel_rfl
    go_enter Tryd.func81, Tryd.ntmps81
    go_wp2
    go_ret
    exact ⟨by kernel_rfl, rfl⟩
  · have hidx : IntKind.u64.wrap (bits BinOp.and IntKind.u64 41 (IntKind.u64.wrap (-41)) * 285870213051353865) / 288230376151711744 = 0 := by kernel_rfl
    go_enter Tryd.func81, Tryd.ntmps81
    go_wp2
    go_ret
    exact ⟨by kernel_rfl, rfl⟩
  · have hidx : IntKind.u64.wrap (bits BinOp.and IntKind.u64 42 (IntKind.u64.wrap (-42)) * 285870213051353865) / 288230376151711744 = 1 := by kernel_rfl
    go_enter Tryd.func81, Tryd.ntmps81
    go_wp2
    go_ret
    exact ⟨by kernel_rfl, rfl⟩
  · have hidx : IntKind.u64.wrap (bits BinOp.and IntKind.u64 43 (IntKind.u64.wrap (-43)) * 285870213051353865) / 288230376151711744 = 0 := by kernel_rfl
    go_enter Tryd.func81, Tryd.ntmps81
    go_wp2
    go_ret
    exact ⟨by kernel_rfl, rfl⟩
  · have hidx : IntKind.u64.wrap (bits BinOp.and IntKind.u64 44 (IntKind.u64.wrap (-44)) * 285870213051353865) / 288230376151711744 = 3 := by kernel_rfl
    go_enter Tryd.func81, Tryd.ntmps81
    go_wp2
    go_ret
    exact ⟨by kernel_rfl, rfl⟩
  · have hidx : IntKind.u64.wrap (bits BinOp.and IntKind.u64 45 (IntKind.u64.wrap (-45)) * 285870213051353865) / 288230376151711744 = 0 := by kernel_rfl
    go_enter Tryd.func81, Tryd.ntmps81
    go_wp2
    go_ret
    exact ⟨by kernel_rfl, rfl⟩
  · have hidx : IntKind.u64.wrap (bits BinOp.and IntKind.u64 46 (IntKind.u64.wrap (-46)) * 285870213051353865) / 288230376151711744 = 1 := by kernel_rfl
    go_enter Tryd.func81, Tryd.ntmps81
    go_wp2
    go_ret
    exact ⟨by kernel_rfl, rfl⟩
  · have hidx : IntKind.u64.wrap (bits BinOp.and IntKind.u64 47 (IntKind.u64.wrap (-47)) * 285870213051353865) / 288230376151711744 = 0 := by kernel_rfl
    go_enter Tryd.func81, Tryd.ntmps81
    go_wp2
    go_ret
    exact ⟨by kernel_rfl, rfl⟩
  · have hidx : IntKind.u64.wrap (bits BinOp.and IntKind.u64 48 (IntKind.u64.wrap (-48)) * 285870213051353865) / 288230376151711744 = 15 := by kernel_rfl
    go_enter Tryd.func81, Tryd.ntmps81
    go_wp2
    go_ret
    exact ⟨by kernel_rfl, rfl⟩
  · have hidx : IntKind.u64.wrap (bits BinOp.and IntKind.u64 49 (IntKind.u64.wrap (-49)) * 285870213051353865) / 288230376151711744 = 0 := by kernel_rfl
    go_enter Tryd.func81, Tryd.ntmps81
    go_wp2
    go_ret
    exact ⟨by kernel_rfl, rfl⟩
  · have hidx : IntKind.u64.wrap (bits BinOp.and IntKind.u64 50 (IntKind.u64.wrap (-50)) * 285870213051353865) / 288230376151711744 = 1 := by kernel_rfl
    go_enter Tryd.func81, Tryd.ntmps81
    go_wp2
    go_ret
    exact ⟨by kernel_rfl, rfl⟩
  · have hidx : IntKind.u64.wrap (bits BinOp.and IntKind.u64 51 (IntKind.u64.wrap (-51)) * 285870213051353865) / 288230376151711744 = 0 := by kernel_rfl
    go_enter Tryd.func81, Tryd.ntmps81
    go_wp2
    go_ret
    exact ⟨by kernel_rfl, rfl⟩
  · have hidx : IntKind.u64.wrap (bits BinOp.and IntKind.u64 52 (IntKind.u64.wrap (-52)) * 285870213051353865) / 288230376151711744 = 3 := by kernel_rfl
    go_enter Tryd.func81, Tryd.ntmps81
    go_wp2
    go_ret
    exact ⟨by kernel_rfl, rfl⟩
  · have hidx : IntKind.u64.wrap (bits BinOp.and IntKind.u64 53 (IntKind.u64.wrap (-53)) * 285870213051353865) / 288230376151711744 = 0 := by kernel_rfl
    go_enter Tryd.func81, Tryd.ntmps81
    go_wp2
    go_ret
    exact ⟨by kernel_rfl, rfl⟩
  · have hidx : IntKind.u64.wrap (bits BinOp.and IntKind.u64 54 (IntKind.u64.wrap (-54)) * 285870213051353865) / 288230376151711744 = 1 := by kernel_rfl
    go_enter Tryd.func81, Tryd.ntmps81
    go_wp2
    go_ret
    exact ⟨by kernel_rfl, rfl⟩
  · have hidx : IntKind.u64.wrap (bits BinOp.and IntKind.u64 55 (IntKind.u64.wrap (-55)) * 285870213051353865) / 288230376151711744 = 0 := by kernel_rfl
    go_enter Tryd.func81, Tryd.ntmps81
    go_wp2
    go_ret
    exact ⟨by kernel_rfl, rfl⟩
  · have hidx : IntKind.u64.wrap (bits BinOp.and IntKind.u64 56 (IntKind.u64.wrap (-56)) * 285870213051353865) / 288230376151711744 = 7 := by kernel_rfl
    go_enter Tryd.func81, Tryd.ntmps81
    go_wp2
    go_ret
    exact ⟨by kernel_rfl, rfl⟩
  · have hidx : IntKind.u64.wrap (bits BinOp.and IntKind.u64 57 (IntKind.u64.wrap (-57)) * 285870213051353865) / 288230376151711744 = 0 := by kernel_rfl
    go_enter Tryd.func81, Tryd.ntmps81
    go_wp2
    go_ret
    exact ⟨by kernel_rfl, rfl⟩
  · have hidx : IntKind.u64.wrap (bits BinOp.and IntKind.u64 58 (IntKind.u64.wrap (-58)) * 285870213051353865) / 288230376151711744 = 1 := by kernel_rfl
    go_enter Tryd.func81, Tryd.ntmps81
    go_wp2
    go_ret
    exact ⟨by kernel_rfl, rfl⟩
  · have hidx : IntKind.u64.wrap (bits BinOp.and IntKind.u64 59 (IntKind.u64.wrap (-59)) * 285870213051353865) / 288230376151711744 = 0 := by kernel_rfl
    go_enter Tryd.func81, Tryd.ntmps81
    go_wp2
    go_ret
    exact ⟨by kernel_rfl, rfl⟩
  · have hidx : IntKind.u64.wrap (bits BinOp.and IntKind.u64 60 (IntKind.u64.wrap (-60)) * 285870213051353865) / 288230376151711744 = 3 := by kernel_rfl
    go_enter Tryd.func81, Tryd.ntmps81
    go_wp2
    go_ret
    exact ⟨by kernel_rfl, rfl⟩
  · have hidx : IntKind.u64.wrap (bits BinOp.and IntKind.u64 61 (IntKind.u64.wrap (-61)) * 285870213051353865) / 288230376151711744 = 0 := by kernel_rfl
    go_enter Tryd.func81, Tryd.ntmps81
    go_wp2
    go_ret
    exact ⟨by kernel_rfl, rfl⟩
  · have hidx : IntKind.u64.wrap (bits BinOp.and IntKind.u64 62 (IntKind.u64.wrap (-62)) * 285870213051353865) / 288230376151711744 = 1 := by kernel_rfl
    go_enter Tryd.func81, Tryd.ntmps81
    go_wp2
    go_ret
    exact ⟨by kernel_rfl, rfl⟩
  · have hidx : IntKind.u64.wrap (bits BinOp.and IntKind.u64 63 (IntKind.u64.wrap (-63)) * 285870213051353865) / 288230376151711744 = 0 := by kernel_rfl
    go_enter Tryd.func81, Tryd.ntmps81
    go_wp2
    go_ret
    exact ⟨by kernel_rfl, rfl⟩
end Go.Proofs.YtjpdebgejlfeaaaDoor
/- The walks of least and most of a domain. -/
namespace Go.Proofs.YtjpdebgejlfeaaaDoor
open Go.RowKit

theorem TrailingZeros_any (d : Nat) (h1 : 1 ≤ d) (h2 : d ≤ 63) (w : World) (hT : TzTab w) :
    Calls Tryd.prog 69 #[.int .u64 d] w fun e w' => e = .returned (.int .i64 (lowB d : Nat)) ∧ w = w' := by
  have HT := hide hT; clear hT
  go_enter Tryd.func69, Tryd.ntmps69
  go_wp2_with (go_at_call 81; refine (TrailingZeros64_any d h1 h2 _ HT.out).mono ?_; rintro e w' ⟨rfl, rfl⟩)
  go_ret
  exact ⟨rfl, rfl⟩
theorem u64_wrap {d : Nat} (h : d ≤ 63) : IntKind.u64.wrap (d : Int) = d := by
  have : (d : Int) ≤ 63 := by omega
  simp [IntKind.wrap, IntKind.bits, IntKind.signed]
  omega
theorem least_any (d : Nat) (h1 : 1 ≤ d) (h2 : d ≤ 63) (w : World) (hT : TzTab w) :
    Calls Tryd.prog 50 #[.int .i64 d] w fun e w' => e = .returned (.int .i64 (lowB d : Nat)) ∧ w = w' := by
  have HT := hide hT; clear hT
  have hw := u64_wrap h2
  go_enter Tryd.func50, Tryd.ntmps50
  go_wp2_with (go_at_call 69; refine (TrailingZeros_any d h1 h2 _ HT.out).mono ?_; rintro e w' ⟨rfl, rfl⟩)
  go_ret
  exact ⟨rfl, rfl⟩
theorem topB_lt {d : Nat} (h2 : d ≤ 63) : topB d < 6 := by
  unfold topB
  by_cases h : d = 0
  · subst h; decide
  · exact (Nat.log2_lt h).2 (by omega)
theorem most_any (d : Nat) (h1 : 1 ≤ d) (h2 : d ≤ 63) (w : World) :
    Calls Tryd.prog 49 #[.int .i64 d] w fun e w' => e = .returned (.int .i64 (topB d : Nat)) ∧ w = w' := by
  have hw := u64_wrap h2
  have ht := topB_lt h2
  have hm : ((topB d + 1 : Nat) : Int) = (topB d : Int) + 1 := by omega
  go_enter Tryd.func49, Tryd.ntmps49
  go_wp2_with (go_at_call 68; refine (Len_any d h1 h2 _).mono ?_; rintro e w' ⟨rfl, rfl⟩; rw [hm])
  go_ret
  exact ⟨ret_i (by omega), rfl⟩
end Go.Proofs.YtjpdebgejlfeaaaDoor
