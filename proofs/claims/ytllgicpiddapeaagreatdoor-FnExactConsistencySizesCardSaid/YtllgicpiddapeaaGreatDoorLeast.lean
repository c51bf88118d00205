/- The walks of least and most of a domain. -/
import Derived.Test.YtllgicpiddapeaaGreatDoorBits
namespace Go.Proofs.YtllgicpiddapeaaGreatDoor
open Go.RowKit

theorem TrailingZeros_any (d : Nat) (h1 : 1 ≤ d) (h2 : d ≤ 63) (w : World) (hT : TzTab w) :
    Calls Tryz.prog 99 #[.int .u64 d] w fun e w' => e = .returned (.int .i64 (lowB d : Nat)) ∧ w = w' := by
  have HT := hide hT; clear hT
  go_enter Tryz.func99, Tryz.ntmps99
  go_wp2_with (go_at_call 117; refine (TrailingZeros64_any d h1 h2 _ HT.out).mono ?_; rintro e w' ⟨rfl, rfl⟩)
  go_ret
  exact ⟨rfl, rfl⟩
theorem u64_wrap {d : Nat} (h : d ≤ 63) : IntKind.u64.wrap (d : Int) = d := by
  have : (d : Int) ≤ 63 := by omega
  simp [IntKind.wrap, IntKind.bits, IntKind.signed]
  omega
theorem least_any (d : Nat) (h1 : 1 ≤ d) (h2 : d ≤ 63) (w : World) (hT : TzTab w) :
    Calls Tryz.prog 69 #[.int .i64 d] w fun e w' => e = .returned (.int .i64 (lowB d : Nat)) ∧ w = w' := by
  have HT := hide hT; clear hT
  have hw := u64_wrap h2
  go_enter Tryz.func69, Tryz.ntmps69
  go_wp2_with (go_at_call 99; refine (TrailingZeros_any d h1 h2 _ HT.out).mono ?_; rintro e w' ⟨rfl, rfl⟩)
  go_ret
  exact ⟨rfl, rfl⟩
theorem topB_lt {d : Nat} (h2 : d ≤ 63) : topB d < 6 := by
  unfold topB
  by_cases h : d = 0
  · subst h; decide
  · exact (Nat.log2_lt h).2 (by omega)
theorem most_any (d : Nat) (h1 : 1 ≤ d) (h2 : d ≤ 63) (w : World) :
    Calls Tryz.prog 70 #[.int .i64 d] w fun e w' => e = .returned (.int .i64 (topB d : Nat)) ∧ w = w' := by
  have hw := u64_wrap h2
  have ht := topB_lt h2
  have hm : ((topB d + 1 : Nat) : Int) = (topB d : Int) + 1 := by omega
  go_enter Tryz.func70, Tryz.ntmps70
  go_wp2_with (go_at_call 100; refine (Len_any d h1 h2 _).mono ?_; rintro e w' ⟨rfl, rfl⟩; rw [hm])
  go_ret
  exact ⟨ret_i (by omega), rfl⟩
end Go.Proofs.YtllgicpiddapeaaGreatDoor
