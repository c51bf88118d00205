/- The walk of the comparison of two slices of tasks. -/
import Derived.Test.YticallgbmmahjaaLwsA
namespace Go.Proofs.Yticallgbmmahjaa
open Go.RowKit

def eqTk (a b : Tk) : Bool := decide (a.s = b.s) && decide (a.d = b.d) && decide (a.m = b.m)
theorem eqTk_self (a : Tk) : eqTk a a = true := by simp [eqTk]

end Go.Proofs.Yticallgbmmahjaa
