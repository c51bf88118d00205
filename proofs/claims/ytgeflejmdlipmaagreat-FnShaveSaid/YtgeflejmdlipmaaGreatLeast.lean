/- The walks of least and most of a domain. -/
import Derived.Test.YtgeflejmdlipmaaGreatBits
namespace Go.Proofs.YtgeflejmdlipmaaGreat
open Go.RowKit

theorem u64_wrap {d : Nat} (h : d ≤ 63) : IntKind.u64.wrap (d : Int) = d := by
  have : (d : Int) ≤ 63 := by omega
  simp [IntKind.wrap, IntKind.bits, IntKind.signed]
  omega
theorem topB_lt {d : Nat} (h2 : d ≤ 63) : topB d < 6 := by
  unfold topB
  by_cases h : d = 0
  · subst h; decide
  · exact (Nat.log2_lt h).2 (by omega)
end Go.Proofs.YtgeflejmdlipmaaGreat
