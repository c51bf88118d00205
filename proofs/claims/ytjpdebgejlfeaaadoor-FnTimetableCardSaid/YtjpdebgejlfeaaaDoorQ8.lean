/- The walk of the law FnExactValidTasks: it returns true, and memory only grows. -/
import Derived.Test.YtjpdebgejlfeaaaDoorQ12
import Derived.Test.YtjpdebgejlfeaaaDoorEner
namespace Go.Proofs.YtjpdebgejlfeaaaDoor
open Go.RowKit

end Go.Proofs.YtjpdebgejlfeaaaDoor
/- The walks of RequiredEnergy and Overload, and of their exact laws. -/
namespace Go.Proofs.YtjpdebgejlfeaaaDoor
open Go.RowKit

end Go.Proofs.YtjpdebgejlfeaaaDoor
/- The walks of Overload, in the reference and in the program, and of the law FnExactOverload. -/
namespace Go.Proofs.YtjpdebgejlfeaaaDoor
open Go.RowKit

/-- The interval from a to b is too full. -/
def ovBad (ts : List Tk) (c : Int) (a b : Nat) : Prop := c * ((b : Int) - a) < en ts a b ts.length
/-- The result is the first interval that is too full, or nothing. -/
def OvVal (ts : List Tk) (c : Int) (x y : Int) (ok : Bool) : Prop :=
  ((vTks ts && inR c 0 9) = true ∧ ok = true ∧ ∃ a b : Nat, x = a ∧ y = b ∧ a < b ∧ b ≤ 11 ∧ ovBad ts c a b ∧ ∀ a' b' : Nat, a' < b' → b' ≤ 11 → (a' < a ∨ a' = a ∧ b' < b) → ¬ ovBad ts c a' b') ∨
  (((vTks ts && inR c 0 9) = true → ∀ a' b' : Nat, a' < b' → b' ≤ 11 → ¬ ovBad ts c a' b') ∧ x = 0 ∧ y = 0 ∧ ok = false)
def OvRes (ts : List Tk) (c : Int) (w : World) (e : Ending) (w' : World) : Prop :=
  ∃ x y ok, e = .returned (.tuple #[.int .i64 x, .int .i64 y, .bool ok]) ∧ OvVal ts c x y ok ∧ Ext w w'
theorem OvRes.yes {ts : List Tk} {c : Int} {w w' : World} {e : Ending} {a b : Nat} (he : e = .returned (.tuple #[.int .i64 a, .int .i64 b, .bool true])) (h1 : (vTks ts && inR c 0 9) = true) (h2 : a < b) (h3 : b ≤ 11) (h4 : ovBad ts c a b)
    (h5 : ∀ a' b' : Nat, a' < b' → b' ≤ 11 → (a' < a ∨ a' = a ∧ b' < b) → ¬ ovBad ts c a' b') (hx : Ext w w') : OvRes ts c w e w' :=
  ⟨_, _, _, he, .inl ⟨h1, rfl, a, b, rfl, rfl, h2, h3, h4, h5⟩, hx⟩
theorem OvRes.no {ts : List Tk} {c : Int} {w w' : World} {e : Ending} (he : e = .returned (.tuple #[.int .i64 0, .int .i64 0, .bool false])) (h1 : (vTks ts && inR c 0 9) = true → ∀ a' b' : Nat, a' < b' → b' ≤ 11 → ¬ ovBad ts c a' b') (hx : Ext w w') : OvRes ts c w e w' :=
  ⟨_, _, _, he, .inr ⟨h1, rfl, rfl, rfl⟩, hx⟩
theorem OvVal.uniq {ts : List Tk} {c x y x' y' : Int} {ok ok' : Bool} (h : OvVal ts c x y ok) (h' : OvVal ts c x' y' ok') : x = x' ∧ y = y' ∧ ok = ok' := by
  rcases h with ⟨h1, rfl, a, b, rfl, rfl, h2, h3, h4, h5⟩ | ⟨h1, rfl, rfl, rfl⟩
  · rcases h' with ⟨_, rfl, a', b', rfl, rfl, h2', h3', h4', h5'⟩ | ⟨h1', rfl, rfl, rfl⟩
    · have e1 : ¬ (a' < a ∨ a' = a ∧ b' < b) := fun hh => h5 a' b' h2' h3' hh h4'
      have e2 : ¬ (a < a' ∨ a = a' ∧ b < b') := fun hh => h5' a b h2 h3 hh h4
      refine ⟨?_, ?_, rfl⟩ <;> omega
    · exact absurd h4 (h1' h1 a b h2 h3)
  · rcases h' with ⟨h1', rfl, a', b', rfl, rfl, h2', h3', h4', h5'⟩ | ⟨h1', rfl, rfl, rfl⟩
    · exact absurd h4' (h1 h1' a' b' h2' h3')
    · exact ⟨rfl, rfl, rfl⟩

end Go.Proofs.YtjpdebgejlfeaaaDoor
