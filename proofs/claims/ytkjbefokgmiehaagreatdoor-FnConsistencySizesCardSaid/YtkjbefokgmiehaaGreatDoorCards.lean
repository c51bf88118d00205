/-
  DERIVED. GIVEN WITH THE SEED: THE CARDS: each row of YtkjbefokgmiehaaGreatDoorRows.lean that lists a variable, with what it lists TIED to the program's text (the seventh form; the later family's looks); each row that meets fmt, with fmt's text TOLD by the authors' own Lean function (tested against real Go, not proved from fmt's source: count such statements apart). THE CARD IS WHAT COUNTS. Prove the row's statement (the work); the ties are given (YtkjbefokgmiehaaGreatDoorTie.lean); close each card by the builder's one call (the guide's Derived/Test/ToyasCard.lean, 'card_holds'). Laid BY PROGRAM, IN A SANDBOX (cutbox-door.mjs). By AI agents, Wed Nov 11 2026. No macro, syntax, notation, axiom, sorry.
-/
import Derived.Test.YtkjbefokgmiehaaGreatDoorRows
import GoSem.ClaimSeven
namespace Go.Proofs.YtkjbefokgmiehaaGreatDoor
namespace Rows

/-- THE TIED CARD OF 'laws.FnBounds'. -/
def fnBoundsCard : Claim7 := { stood := { row := fnBoundsRow, standIns := [], harness := (true, "d0a50ee29ecbd9368f9cf7e39d6fbd2a06032d0f1e44c5bdf14b455a32066e7e"), looks := false }, kinds := [], alts := [], laidByText := true, laidKinds := [.data, .data], laidTests := true, laidLooks := .later }
def FnBoundsCardSaid : Prop := Claim7.holds Tryz.pinned (.plain (OpenSpec.ofChange fnBoundsSpec)) fnBoundsCard

/-- THE TIED CARD OF 'laws.FnConsistencySizes'. -/
def fnConsistencySizesCard : Claim7 := { stood := { row := fnConsistencySizesRow, standIns := [], harness := (true, "d0a50ee29ecbd9368f9cf7e39d6fbd2a06032d0f1e44c5bdf14b455a32066e7e"), looks := false }, kinds := [], alts := [], laidByText := true, laidKinds := [.data, .data], laidTests := true, laidLooks := .later }
def FnConsistencySizesCardSaid : Prop := Claim7.holds Tryz.pinned (.plain (OpenSpec.ofChange fnConsistencySizesSpec)) fnConsistencySizesCard

/-- THE SECOND FORM's CARD OF 'laws.FnBounds'. -/
def fnBoundsUptoCard : Claim7 := { stood := { row := fnBoundsUptoRow, standIns := [], harness := (true, "d0a50ee29ecbd9368f9cf7e39d6fbd2a06032d0f1e44c5bdf14b455a32066e7e"), looks := false }, kinds := [], alts := [], laidByText := true, laidKinds := [.data, .data], laidTests := true, laidLooks := .later }
def FnBoundsUptoCardSaid : Prop := Claim7.holds Tryz.pinned (.plain (OpenSpec.upto fnBoundsSpec)) fnBoundsUptoCard

/-- THE SECOND FORM's CARD OF 'laws.FnConsistencySizes'. -/
def fnConsistencySizesUptoCard : Claim7 := { stood := { row := fnConsistencySizesUptoRow, standIns := [], harness := (true, "d0a50ee29ecbd9368f9cf7e39d6fbd2a06032d0f1e44c5bdf14b455a32066e7e"), looks := false }, kinds := [], alts := [], laidByText := true, laidKinds := [.data, .data], laidTests := true, laidLooks := .later }
def FnConsistencySizesUptoCardSaid : Prop := Claim7.holds Tryz.pinned (.plain (OpenSpec.upto fnConsistencySizesSpec)) fnConsistencySizesUptoCard
end Rows
end Go.Proofs.YtkjbefokgmiehaaGreatDoor
