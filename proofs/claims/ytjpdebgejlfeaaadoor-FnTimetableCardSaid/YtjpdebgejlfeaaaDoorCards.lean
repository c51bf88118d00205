/-
  DERIVED. GIVEN WITH THE SEED: THE CARDS: each row of YtjpdebgejlfeaaaDoorRows.lean that lists a variable, with what it lists TIED to the program's text (the seventh form; the later family's looks); each row that meets fmt, with fmt's text TOLD by the authors' own Lean function (tested against real Go, not proved from fmt's source: count such statements apart). THE CARD IS WHAT COUNTS. Prove the row's statement (the work); the ties are given (YtjpdebgejlfeaaaDoorTie.lean); close each card by the builder's one call (the guide's Derived/Test/ToyasCard.lean, 'card_holds'). Laid BY PROGRAM, IN A SANDBOX (cutbox-door.mjs). By AI agents, Wed Nov 11 2026. No macro, syntax, notation, axiom, sorry.
-/
import Derived.Test.YtjpdebgejlfeaaaDoorRows
import GoSem.ClaimSeven
namespace Go.Proofs.YtjpdebgejlfeaaaDoor
namespace Rows

/-- THE TIED CARD OF 'laws.FnExactTimetableFilter'. -/
def fnExactTimetableFilterCard : Claim7 := { stood := { row := fnExactTimetableFilterRow, standIns := [], harness := (true, "e0fa597b7abaa16f6251db0951dc3e7ff88b67439fdf0a421cac26c186775cdd"), looks := false }, kinds := [], alts := [], laidByText := true, laidKinds := [.data, .data], laidTests := true, laidLooks := .later }
def FnExactTimetableFilterCardSaid : Prop := Claim7.holds Tryd.pinned (.plain (OpenSpec.ofChange fnExactTimetableFilterSpec)) fnExactTimetableFilterCard

/-- THE TIED CARD OF 'laws.FnTimetable'. -/
def fnTimetableCard : Claim7 := { stood := { row := fnTimetableRow, standIns := [], harness := (true, "e0fa597b7abaa16f6251db0951dc3e7ff88b67439fdf0a421cac26c186775cdd"), looks := false }, kinds := [], alts := [], laidByText := true, laidKinds := [.data, .data], laidTests := true, laidLooks := .later }
def FnTimetableCardSaid : Prop := Claim7.holds Tryd.pinned (.plain (OpenSpec.ofChange fnTimetableSpec)) fnTimetableCard

/-- THE SECOND FORM's CARD OF 'laws.FnExactTimetableFilter'. -/
def fnExactTimetableFilterUptoCard : Claim7 := { stood := { row := fnExactTimetableFilterUptoRow, standIns := [], harness := (true, "e0fa597b7abaa16f6251db0951dc3e7ff88b67439fdf0a421cac26c186775cdd"), looks := false }, kinds := [], alts := [], laidByText := true, laidKinds := [.data, .data], laidTests := true, laidLooks := .later }
def FnExactTimetableFilterUptoCardSaid : Prop := Claim7.holds Tryd.pinned (.plain (OpenSpec.upto fnExactTimetableFilterSpec)) fnExactTimetableFilterUptoCard

/-- THE SECOND FORM's CARD OF 'laws.FnTimetable'. -/
def fnTimetableUptoCard : Claim7 := { stood := { row := fnTimetableUptoRow, standIns := [], harness := (true, "e0fa597b7abaa16f6251db0951dc3e7ff88b67439fdf0a421cac26c186775cdd"), looks := false }, kinds := [], alts := [], laidByText := true, laidKinds := [.data, .data], laidTests := true, laidLooks := .later }
def FnTimetableUptoCardSaid : Prop := Claim7.holds Tryd.pinned (.plain (OpenSpec.upto fnTimetableSpec)) fnTimetableUptoCard
end Rows
end Go.Proofs.YtjpdebgejlfeaaaDoor
