/-
  DERIVED. GIVEN WITH THE SEED: THE CARDS: each row of YtllgicpiddapeaaGreatDoorRows.lean that lists a variable, with what it lists TIED to the program's text (the seventh form; the later family's looks); each row that meets fmt, with fmt's text TOLD by the authors' own Lean function (tested against real Go, not proved from fmt's source: count such statements apart). THE CARD IS WHAT COUNTS. Prove the row's statement (the work); the ties are given (YtllgicpiddapeaaGreatDoorTie.lean); close each card by the builder's one call (the guide's Derived/Test/ToyasCard.lean, 'card_holds'). Laid BY PROGRAM, IN A SANDBOX (cutbox-door.mjs). By AI agents, Wed Nov 11 2026. No macro, syntax, notation, axiom, sorry.
-/
import Derived.Test.YtllgicpiddapeaaGreatDoorRows
import GoSem.ClaimSeven
namespace Go.Proofs.YtllgicpiddapeaaGreatDoor
namespace Rows

/-- THE TIED CARD OF 'laws.FnExactShavedBound'. -/
def fnExactShavedBoundCard : Claim7 := { stood := { row := fnExactShavedBoundRow, standIns := [], harness := (true, "d18b6780a2dcdf144614356d543d3e7b6bcbf72ceff606fc002b041b9d015940"), looks := false }, kinds := [], alts := [], laidByText := true, laidKinds := [.data, .data], laidTests := true, laidLooks := .later }
def FnExactShavedBoundCardSaid : Prop := Claim7.holds Tryz.pinned (.plain (OpenSpec.ofChange fnExactShavedBoundSpec)) fnExactShavedBoundCard

/-- THE TIED CARD OF 'laws.FnExactConsistencySizes'. -/
def fnExactConsistencySizesCard : Claim7 := { stood := { row := fnExactConsistencySizesRow, standIns := [], harness := (true, "d18b6780a2dcdf144614356d543d3e7b6bcbf72ceff606fc002b041b9d015940"), looks := false }, kinds := [], alts := [], laidByText := true, laidKinds := [.data, .data], laidTests := true, laidLooks := .later }
def FnExactConsistencySizesCardSaid : Prop := Claim7.holds Tryz.pinned (.plain (OpenSpec.ofChange fnExactConsistencySizesSpec)) fnExactConsistencySizesCard

/-- THE SECOND FORM's CARD OF 'laws.FnExactShavedBound'. -/
def fnExactShavedBoundUptoCard : Claim7 := { stood := { row := fnExactShavedBoundUptoRow, standIns := [], harness := (true, "d18b6780a2dcdf144614356d543d3e7b6bcbf72ceff606fc002b041b9d015940"), looks := false }, kinds := [], alts := [], laidByText := true, laidKinds := [.data, .data], laidTests := true, laidLooks := .later }
def FnExactShavedBoundUptoCardSaid : Prop := Claim7.holds Tryz.pinned (.plain (OpenSpec.upto fnExactShavedBoundSpec)) fnExactShavedBoundUptoCard

/-- THE SECOND FORM's CARD OF 'laws.FnExactConsistencySizes'. -/
def fnExactConsistencySizesUptoCard : Claim7 := { stood := { row := fnExactConsistencySizesUptoRow, standIns := [], harness := (true, "d18b6780a2dcdf144614356d543d3e7b6bcbf72ceff606fc002b041b9d015940"), looks := false }, kinds := [], alts := [], laidByText := true, laidKinds := [.data, .data], laidTests := true, laidLooks := .later }
def FnExactConsistencySizesUptoCardSaid : Prop := Claim7.holds Tryz.pinned (.plain (OpenSpec.upto fnExactConsistencySizesSpec)) fnExactConsistencySizesUptoCard
end Rows
end Go.Proofs.YtllgicpiddapeaaGreatDoor
