/-
  DERIVED. GIVEN WITH THE SEED: THE CARDS: each row of YtalgilgfoekioaaGreatDoorRows.lean that lists a variable, with what it lists TIED to the program's text (the seventh form; the later family's looks); each row that meets fmt, with fmt's text TOLD by the authors' own Lean function (tested against real Go, not proved from fmt's source: count such statements apart). THE CARD IS WHAT COUNTS. Prove the row's statement (the work); the ties are given (YtalgilgfoekioaaGreatDoorTie.lean); close each card by the builder's one call (the guide's Derived/Test/ToyasCard.lean, 'card_holds'). Laid BY PROGRAM, IN A SANDBOX (cutbox-door.mjs). By AI agents, Wed Nov 11 2026. No macro, syntax, notation, axiom, sorry.
-/
import Derived.Test.YtalgilgfoekioaaGreatDoorRows
import GoSem.ClaimSeven
namespace Go.Proofs.YtalgilgfoekioaaGreatDoor
namespace Rows

/-- THE TIED CARD OF 'laws.FnShavedBound'. -/
def fnShavedBoundCard : Claim7 := { stood := { row := fnShavedBoundRow, standIns := [], harness := (true, "5bab8a2f17aaed307ae518f7608ad55f694187b2c5f88452c06ed7df888718c3"), looks := false }, kinds := [], alts := [], laidByText := true, laidKinds := [.data, .data], laidTests := true, laidLooks := .later }
def FnShavedBoundCardSaid : Prop := Claim7.holds Tryz.pinned (.plain (OpenSpec.ofChange fnShavedBoundSpec)) fnShavedBoundCard

/-- THE SECOND FORM's CARD OF 'laws.FnShavedBound'. -/
def fnShavedBoundUptoCard : Claim7 := { stood := { row := fnShavedBoundUptoRow, standIns := [], harness := (true, "5bab8a2f17aaed307ae518f7608ad55f694187b2c5f88452c06ed7df888718c3"), looks := false }, kinds := [], alts := [], laidByText := true, laidKinds := [.data, .data], laidTests := true, laidLooks := .later }
def FnShavedBoundUptoCardSaid : Prop := Claim7.holds Tryz.pinned (.plain (OpenSpec.upto fnShavedBoundSpec)) fnShavedBoundUptoCard
end Rows
end Go.Proofs.YtalgilgfoekioaaGreatDoor
