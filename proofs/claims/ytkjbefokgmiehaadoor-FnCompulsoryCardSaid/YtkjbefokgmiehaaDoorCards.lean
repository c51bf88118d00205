/-
  DERIVED. GIVEN WITH THE SEED: THE CARDS: each row of YtkjbefokgmiehaaDoorRows.lean that lists a variable, with what it lists TIED to the program's text (the seventh form; the later family's looks); each row that meets fmt, with fmt's text TOLD by the authors' own Lean function (tested against real Go, not proved from fmt's source: count such statements apart). THE CARD IS WHAT COUNTS. Prove the row's statement (the work); the ties are given (YtkjbefokgmiehaaDoorTie.lean); close each card by the builder's one call (the guide's Derived/Test/ToyasCard.lean, 'card_holds'). Laid BY PROGRAM, IN A SANDBOX (cutbox-door.mjs). By AI agents, Wed Nov 11 2026. No macro, syntax, notation, axiom, sorry.
-/
import Derived.Test.YtkjbefokgmiehaaDoorRows
import GoSem.ClaimSeven
namespace Go.Proofs.YtkjbefokgmiehaaDoor
namespace Rows

/-- THE TIED CARD OF 'laws.FnCompulsory'. -/
def fnCompulsoryCard : Claim7 := { stood := { row := fnCompulsoryRow, standIns := [], harness := (true, "d06939ba25c51b8fa54ab68c6122af66f49ebae1bedd541af7fabd78ac9a2652"), looks := false }, kinds := [], alts := [], laidByText := true, laidKinds := [.data, .data], laidTests := true, laidLooks := .later }
def FnCompulsoryCardSaid : Prop := Claim7.holds Tryd.pinned (.plain (OpenSpec.ofChange fnCompulsorySpec)) fnCompulsoryCard

/-- THE SECOND FORM's CARD OF 'laws.FnCompulsory'. -/
def fnCompulsoryUptoCard : Claim7 := { stood := { row := fnCompulsoryUptoRow, standIns := [], harness := (true, "d06939ba25c51b8fa54ab68c6122af66f49ebae1bedd541af7fabd78ac9a2652"), looks := false }, kinds := [], alts := [], laidByText := true, laidKinds := [.data, .data], laidTests := true, laidLooks := .later }
def FnCompulsoryUptoCardSaid : Prop := Claim7.holds Tryd.pinned (.plain (OpenSpec.upto fnCompulsorySpec)) fnCompulsoryUptoCard
end Rows
end Go.Proofs.YtkjbefokgmiehaaDoor
