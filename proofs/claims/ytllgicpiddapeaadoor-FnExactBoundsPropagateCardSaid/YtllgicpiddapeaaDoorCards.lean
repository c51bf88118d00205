/-
  DERIVED. GIVEN WITH THE SEED: THE CARDS: each row of YtllgicpiddapeaaDoorRows.lean that lists a variable, with what it lists TIED to the program's text (the seventh form; the later family's looks); each row that meets fmt, with fmt's text TOLD by the authors' own Lean function (tested against real Go, not proved from fmt's source: count such statements apart). THE CARD IS WHAT COUNTS. Prove the row's statement (the work); the ties are given (YtllgicpiddapeaaDoorTie.lean); close each card by the builder's one call (the guide's Derived/Test/ToyasCard.lean, 'card_holds'). Laid BY PROGRAM, IN A SANDBOX (cutbox-door.mjs). By AI agents, Wed Nov 11 2026. No macro, syntax, notation, axiom, sorry.
-/
import Derived.Test.YtllgicpiddapeaaDoorRows
import GoSem.ClaimSeven
namespace Go.Proofs.YtllgicpiddapeaaDoor
namespace Rows

/-- THE TIED CARD OF 'laws.FnExactCompulsoryPart'. -/
def fnExactCompulsoryPartCard : Claim7 := { stood := { row := fnExactCompulsoryPartRow, standIns := [], harness := (true, "cba6374fcb8db781b955904c838d5df2bd1ffc21341ecf6f1ff481ea16445525"), looks := false }, kinds := [], alts := [], laidByText := true, laidKinds := [.data, .data], laidTests := true, laidLooks := .later }
def FnExactCompulsoryPartCardSaid : Prop := Claim7.holds Tryd.pinned (.plain (OpenSpec.ofChange fnExactCompulsoryPartSpec)) fnExactCompulsoryPartCard

/-- THE TIED CARD OF 'laws.FnExactBoundsPropagate'. -/
def fnExactBoundsPropagateCard : Claim7 := { stood := { row := fnExactBoundsPropagateRow, standIns := [], harness := (true, "cba6374fcb8db781b955904c838d5df2bd1ffc21341ecf6f1ff481ea16445525"), looks := false }, kinds := [], alts := [], laidByText := true, laidKinds := [.data, .data], laidTests := true, laidLooks := .later }
def FnExactBoundsPropagateCardSaid : Prop := Claim7.holds Tryd.pinned (.plain (OpenSpec.ofChange fnExactBoundsPropagateSpec)) fnExactBoundsPropagateCard

/-- THE SECOND FORM's CARD OF 'laws.FnExactCompulsoryPart'. -/
def fnExactCompulsoryPartUptoCard : Claim7 := { stood := { row := fnExactCompulsoryPartUptoRow, standIns := [], harness := (true, "cba6374fcb8db781b955904c838d5df2bd1ffc21341ecf6f1ff481ea16445525"), looks := false }, kinds := [], alts := [], laidByText := true, laidKinds := [.data, .data], laidTests := true, laidLooks := .later }
def FnExactCompulsoryPartUptoCardSaid : Prop := Claim7.holds Tryd.pinned (.plain (OpenSpec.upto fnExactCompulsoryPartSpec)) fnExactCompulsoryPartUptoCard

/-- THE SECOND FORM's CARD OF 'laws.FnExactBoundsPropagate'. -/
def fnExactBoundsPropagateUptoCard : Claim7 := { stood := { row := fnExactBoundsPropagateUptoRow, standIns := [], harness := (true, "cba6374fcb8db781b955904c838d5df2bd1ffc21341ecf6f1ff481ea16445525"), looks := false }, kinds := [], alts := [], laidByText := true, laidKinds := [.data, .data], laidTests := true, laidLooks := .later }
def FnExactBoundsPropagateUptoCardSaid : Prop := Claim7.holds Tryd.pinned (.plain (OpenSpec.upto fnExactBoundsPropagateSpec)) fnExactBoundsPropagateUptoCard
end Rows
end Go.Proofs.YtllgicpiddapeaaDoor
