/- The walks of least and most of a domain. -/
import Derived.Test.YtllgicpiddapeaaDoorBits
namespace Go.Proofs.YtllgicpiddapeaaDoor
open Go.RowKit

theorem TrailingZeros_any (d : Nat) (h1 : 1 ≤ d) (h2 : d ≤ 63) (w : World) (hT : TzTab w) :
    Calls Tryd.prog 38 #[.int .u64 d] w fun e w' => e = .returned (.int .i64 (lowB d : Nat)) ∧ w = w' := by
  have HT := hide hT; clear hT
  go_enter Tryd.func38, Tryd.ntmps38
  go_wp2_with (go_at_call 60; refine (TrailingZeros64_any d h1 h2 _ HT.out).mono ?_; rintro e w' ⟨rfl, rfl⟩)
  go_ret
  exact ⟨rfl, rfl⟩
theorem u64_wrap {d : Nat} (h : d ≤ 63) : IntKind.u64.wrap (d : Int) = d := by
  have : (d : Int) ≤ 63 := by omega
  simp [IntKind.wrap, IntKind.bits, IntKind.signed]
  omega
theorem least_any (d : Nat) (h1 : 1 ≤ d) (h2 : d ≤ 63) (w : World) (hT : TzTab w) :
    Calls Tryd.prog 21 #[.int .i64 d] w fun e w' => e = .returned (.int .i64 (lowB d : Nat)) ∧ w = w' := by
  have HT := hide hT; clear hT
  have hw := u64_wrap h2
  go_enter Tryd.func21, Tryd.ntmps21
  go_wp2_with (go_at_call 38; refine (TrailingZeros_any d h1 h2 _ HT.out).mono ?_; rintro e w' ⟨rfl, rfl⟩)
  go_ret
  exact ⟨rfl, rfl⟩
theorem topB_lt {d : Nat} (h2 : d ≤ 63) : topB d < 6 := by
  unfold topB
  by_cases h : d = 0
  · subst h; decide
  · exact (Nat.log2_lt h).2 (by omega)
theorem most_any (d : Nat) (h1 : 1 ≤ d) (h2 : d ≤ 63) (w : World) :
    Calls Tryd.prog 20 #[.int .i64 d] w fun e w' => e = .returned (.int .i64 (topB d : Nat)) ∧ w = w' := by
  have hw := u64_wrap h2
  have ht := topB_lt h2
  have hm : ((topB d + 1 : Nat) : Int) = (topB d : Int) + 1 := by omega
  go_enter Tryd.func20, Tryd.ntmps20
  go_wp2_with (go_at_call 37; refine (Len_any d h1 h2 _).mono ?_; rintro e w' ⟨rfl, rfl⟩; rw [hm])
  go_ret
  exact ⟨ret_i (by omega), rfl⟩
end Go.Proofs.YtllgicpiddapeaaDoor
