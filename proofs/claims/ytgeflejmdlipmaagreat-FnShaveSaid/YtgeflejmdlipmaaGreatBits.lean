/- The walks of bits.Len and bits.TrailingZeros at 1..63. -/
import Derived.Test.YtgeflejmdlipmaaGreatBase
namespace Go.Proofs.YtgeflejmdlipmaaGreat
open Go.RowKit

/-- The greatest and the least member. -/
def topB (d : Nat) : Nat := Nat.log2 d
def lowB (d : Nat) : Nat := ((List.range 6).find? (fun i => d.testBit i)).getD 0
theorem dom_cases {d : Nat} (h1 : 1 ≤ d) (h2 : d ≤ 63) : d = 1 ∨ d = 2 ∨ d = 3 ∨ d = 4 ∨ d = 5 ∨ d = 6 ∨ d = 7 ∨ d = 8 ∨ d = 9 ∨ d = 10 ∨ d = 11 ∨ d = 12 ∨ d = 13 ∨ d = 14 ∨ d = 15 ∨ d = 16 ∨ d = 17 ∨ d = 18 ∨ d = 19 ∨ d = 20 ∨ d = 21 ∨ d = 22 ∨ d = 23 ∨ d = 24 ∨ d = 25 ∨ d = 26 ∨ d = 27 ∨ d = 28 ∨ d = 29 ∨ d = 30 ∨ d = 31 ∨ d = 32 ∨ d = 33 ∨ d = 34 ∨ d = 35 ∨ d = 36 ∨ d = 37 ∨ d = 38 ∨ d = 39 ∨ d = 40 ∨ d = 41 ∨ d = 42 ∨ d = 43 ∨ d = 44 ∨ d = 45 ∨ d = 46 ∨ d = 47 ∨ d = 48 ∨ d = 49 ∨ d = 50 ∨ d = 51 ∨ d = 52 ∨ d = 53 ∨ d = 54 ∨ d = 55 ∨ d = 56 ∨ d = 57 ∨ d = 58 ∨ d = 59 ∨ d = 60 ∨ d = 61 ∨ d = 62 ∨ d = 63 := by omega
/-- The cells of the table that 1..63 come to. -/
def TzTab (w : World) : Prop := w.cell? ⟨1, 0, none⟩ = some (.int .u8 0) ∧ w.cell? ⟨1, 1, none⟩ = some (.int .u8 1) ∧ w.cell? ⟨1, 3, none⟩ = some (.int .u8 2) ∧ w.cell? ⟨1, 7, none⟩ = some (.int .u8 3) ∧ w.cell? ⟨1, 15, none⟩ = some (.int .u8 4) ∧ w.cell? ⟨1, 31, none⟩ = some (.int .u8 5)
end Go.Proofs.YtgeflejmdlipmaaGreat
