/-
  No cell of these rows narrows 'for every input' (looked for: loops, veiled, ifaces, maps, wideKeys, modest, calm, conditions, laid).
  DERIVED. THE GIVEN ROWS OF THIS SEAT. 6 by the template 'for every input the law returns true; each argument reads behind the call as it read before'; 0 by the template 'total and deterministic' (their statements: YtpenkpiachfnnaaTotals.lean).
  GIVEN WITH THE SEED: the statements are not yours to turn. If you find one false, say at which input.
  Laid BY PROGRAM, IN A SANDBOX (cutbox-rows.mjs): the forced cells as the released guide's own fill.sh prints them over the translation bf91aeec6f1a0cb3… (all of the seat's roots in one cut). By AI agents, Wed Nov 11 2026. No macro, syntax, notation, axiom, sorry.
-/
import Derived.Test.YtpenkpiachfnnaaChecked
import GoSem.Claim
import GoSem.ClaimJoined
import GoSem.ClaimMapViews
import Derived.JoinedTies
import Derived.KernelRfl
namespace Go.Proofs.Ytpenkpiachfnnaa
/- THE CELL 'sum', in the pinned program and in every row, IS THE sha256 OF THE DUMP (.gsa) THAT YtpenkpiachfnnaaProg.lean LOADS. Nothing in Lean hashes anything: it is a label: what it is worth is what the hold of that sum in a sandbox is worth. -/
noncomputable def Try.pinned : Pinned := { name := "ytpenkpiachfnnaa", sum := "bf91aeec6f1a0cb38b0570aa406f300e37811e0a951bdbe4442a8775d658cca3", checked := Try.checked }
namespace Rows
def none {H : Type} : Left H := { results := [], args := [] }

/-- 'laws.FnExactValidAutomaton': WHATEVER THE INPUT: true; the input reads as it did. -/
def fnExactValidAutomatonSpec : ChangeSpec := { name := "fnExactValidAutomaton", fn := fun _ => fun
  | [d] => { results := [.lit (.bool true)], args := [d] }
  | _ => none }
def fnExactValidAutomatonRow : OpenClaim := { program := "ytpenkpiachfnnaa", sum := "bf91aeec6f1a0cb38b0570aa406f300e37811e0a951bdbe4442a8775d658cca3", func := "loop.example/constraintsolver/laws.FnExactValidAutomaton", spec := "fnExactValidAutomaton", unfollowed := true, recurses := true, apart := false }
def FnExactValidAutomatonSaid : Prop := fnExactValidAutomatonRow.holds Try.pinned (OpenSpec.ofChange fnExactValidAutomatonSpec)

/-- ITS FALSE NEIGHBOUR: 'it returns false'. Refute it at one input. -/
def fnExactValidAutomatonWrong : ChangeSpec := { name := "fnExactValidAutomaton", fn := fun _ => fun
  | [d] => { results := [.lit (.bool false)], args := [d] }
  | _ => none }
def FnExactValidAutomatonWrongFalsely : Prop := fnExactValidAutomatonRow.holds Try.pinned (OpenSpec.ofChange fnExactValidAutomatonWrong)

/-- 'laws.FnExactAutomatonAccepts': WHATEVER THE INPUT: true; the input reads as it did. -/
def fnExactAutomatonAcceptsSpec : ChangeSpec := { name := "fnExactAutomatonAccepts", fn := fun _ => fun
  | [d1, d2] => { results := [.lit (.bool true)], args := [d1, d2] }
  | _ => none }
def fnExactAutomatonAcceptsRow : OpenClaim := { program := "ytpenkpiachfnnaa", sum := "bf91aeec6f1a0cb38b0570aa406f300e37811e0a951bdbe4442a8775d658cca3", func := "loop.example/constraintsolver/laws.FnExactAutomatonAccepts", spec := "fnExactAutomatonAccepts", unfollowed := true, recurses := true, apart := false }
def FnExactAutomatonAcceptsSaid : Prop := fnExactAutomatonAcceptsRow.holds Try.pinned (OpenSpec.ofChange fnExactAutomatonAcceptsSpec)

/-- ITS FALSE NEIGHBOUR: 'it returns false'. Refute it at one input. -/
def fnExactAutomatonAcceptsWrong : ChangeSpec := { name := "fnExactAutomatonAccepts", fn := fun _ => fun
  | [d1, d2] => { results := [.lit (.bool false)], args := [d1, d2] }
  | _ => none }
def FnExactAutomatonAcceptsWrongFalsely : Prop := fnExactAutomatonAcceptsRow.holds Try.pinned (OpenSpec.ofChange fnExactAutomatonAcceptsWrong)

/-- 'laws.FnExactCountWords': WHATEVER THE INPUT: true; the input reads as it did. -/
def fnExactCountWordsSpec : ChangeSpec := { name := "fnExactCountWords", fn := fun _ => fun
  | [d1, d2] => { results := [.lit (.bool true)], args := [d1, d2] }
  | _ => none }
def fnExactCountWordsRow : OpenClaim := { program := "ytpenkpiachfnnaa", sum := "bf91aeec6f1a0cb38b0570aa406f300e37811e0a951bdbe4442a8775d658cca3", func := "loop.example/constraintsolver/laws.FnExactCountWords", spec := "fnExactCountWords", unfollowed := true, recurses := true, apart := false }
def FnExactCountWordsSaid : Prop := fnExactCountWordsRow.holds Try.pinned (OpenSpec.ofChange fnExactCountWordsSpec)

/-- ITS FALSE NEIGHBOUR: 'it returns false'. Refute it at one input. -/
def fnExactCountWordsWrong : ChangeSpec := { name := "fnExactCountWords", fn := fun _ => fun
  | [d1, d2] => { results := [.lit (.bool false)], args := [d1, d2] }
  | _ => none }
def FnExactCountWordsWrongFalsely : Prop := fnExactCountWordsRow.holds Try.pinned (OpenSpec.ofChange fnExactCountWordsWrong)

/-- 'laws.FnCountWords': WHATEVER THE INPUT: true; the input reads as it did. -/
def fnCountWordsSpec : ChangeSpec := { name := "fnCountWords", fn := fun _ => fun
  | [d] => { results := [.lit (.bool true)], args := [d] }
  | _ => none }
def fnCountWordsRow : OpenClaim := { program := "ytpenkpiachfnnaa", sum := "bf91aeec6f1a0cb38b0570aa406f300e37811e0a951bdbe4442a8775d658cca3", func := "loop.example/constraintsolver/laws.FnCountWords", spec := "fnCountWords", unfollowed := true, recurses := true, apart := false }
def FnCountWordsSaid : Prop := fnCountWordsRow.holds Try.pinned (OpenSpec.ofChange fnCountWordsSpec)

/-- ITS FALSE NEIGHBOUR: 'it returns false'. Refute it at one input. -/
def fnCountWordsWrong : ChangeSpec := { name := "fnCountWords", fn := fun _ => fun
  | [d] => { results := [.lit (.bool false)], args := [d] }
  | _ => none }
def FnCountWordsWrongFalsely : Prop := fnCountWordsRow.holds Try.pinned (OpenSpec.ofChange fnCountWordsWrong)

/-- 'laws.FnExactShortestDifference': WHATEVER THE INPUT: true; the input reads as it did. -/
def fnExactShortestDifferenceSpec : ChangeSpec := { name := "fnExactShortestDifference", fn := fun _ => fun
  | [d1, d2] => { results := [.lit (.bool true)], args := [d1, d2] }
  | _ => none }
def fnExactShortestDifferenceRow : OpenClaim := { program := "ytpenkpiachfnnaa", sum := "bf91aeec6f1a0cb38b0570aa406f300e37811e0a951bdbe4442a8775d658cca3", func := "loop.example/constraintsolver/laws.FnExactShortestDifference", spec := "fnExactShortestDifference", unfollowed := true, recurses := true, apart := false }
def FnExactShortestDifferenceSaid : Prop := fnExactShortestDifferenceRow.holds Try.pinned (OpenSpec.ofChange fnExactShortestDifferenceSpec)

/-- ITS FALSE NEIGHBOUR: 'it returns false'. Refute it at one input. -/
def fnExactShortestDifferenceWrong : ChangeSpec := { name := "fnExactShortestDifference", fn := fun _ => fun
  | [d1, d2] => { results := [.lit (.bool false)], args := [d1, d2] }
  | _ => none }
def FnExactShortestDifferenceWrongFalsely : Prop := fnExactShortestDifferenceRow.holds Try.pinned (OpenSpec.ofChange fnExactShortestDifferenceWrong)

/-- 'laws.FnDifference': WHATEVER THE INPUT: true; the input reads as it did. -/
def fnDifferenceSpec : ChangeSpec := { name := "fnDifference", fn := fun _ => fun
  | [d] => { results := [.lit (.bool true)], args := [d] }
  | _ => none }
def fnDifferenceRow : OpenClaim := { program := "ytpenkpiachfnnaa", sum := "bf91aeec6f1a0cb38b0570aa406f300e37811e0a951bdbe4442a8775d658cca3", func := "loop.example/constraintsolver/laws.FnDifference", spec := "fnDifference", unfollowed := true, recurses := true, apart := false }
def FnDifferenceSaid : Prop := fnDifferenceRow.holds Try.pinned (OpenSpec.ofChange fnDifferenceSpec)

/-- ITS FALSE NEIGHBOUR: 'it returns false'. Refute it at one input. -/
def fnDifferenceWrong : ChangeSpec := { name := "fnDifference", fn := fun _ => fun
  | [d] => { results := [.lit (.bool false)], args := [d] }
  | _ => none }
def FnDifferenceWrongFalsely : Prop := fnDifferenceRow.holds Try.pinned (OpenSpec.ofChange fnDifferenceWrong)

/- THE SECOND FORM. 'bulk': how many values and letters a reading holds, each counted each time it is reached (what is shared counts as often as it is met; a slice's spare places count too). A statement '..UptoSaid' is the law's where the arguments, and the package variables that the reading takes, are together of bulk at most 1048576: NARROWER than '..Said'. Prove '..Said' where nothing that the law and all that it calls make is longer than what came in: it says more and counts as full. Else prove '..UptoSaid'. A law counts once. -/
mutual
def uptoBulk {H : Type} : DataW H → Nat
  | .lit (.string bytes) => bytes.length + 1
  | .lit _ => 1
  | .nil => 1
  | .ptr d => uptoBulk d + 1
  | .slice elems spare => uptoBulkAll elems + uptoBulkAll spare + 1
  | .agg parts => uptoBulkAll parts + 1
  | .iface _ d => uptoBulk d + 1
  | .map entries => uptoBulkEntries entries + 1
  | .held _ => 1
def uptoBulkAll {H : Type} : List (DataW H) → Nat
  | [] => 0
  | d :: r => uptoBulk d + uptoBulkAll r
def uptoBulkEntries {H : Type} : List (Lit × DataW H) → Nat
  | [] => 0
  | x :: r => uptoBulkEntry x + uptoBulkEntries r
def uptoBulkEntry {H : Type} : Lit × DataW H → Nat
  | (.string bytes, d) => bytes.length + uptoBulk d + 1
  | (_, d) => uptoBulk d + 1
 end
def uptoSmall : (H : Type) → List (DataW H) → Bool := fun _ ds => decide (uptoBulkAll ds ≤ 1048576)
def OpenSpec.upto (s : _root_.Go.ChangeSpec) : _root_.Go.OpenSpec := { _root_.Go.OpenSpec.ofChange s with cond := some uptoSmall }

/-- 'laws.FnExactValidAutomaton', WHERE WHAT IT READS IS OF BULK AT MOST 1048576: true; the input reads as it did. -/
def fnExactValidAutomatonUptoRow : OpenClaim := { program := "ytpenkpiachfnnaa", sum := "bf91aeec6f1a0cb38b0570aa406f300e37811e0a951bdbe4442a8775d658cca3", func := "loop.example/constraintsolver/laws.FnExactValidAutomaton", spec := "fnExactValidAutomaton", unfollowed := true, recurses := true, apart := false, narrowed := true }
def FnExactValidAutomatonUptoSaid : Prop := fnExactValidAutomatonUptoRow.holds Try.pinned (OpenSpec.upto fnExactValidAutomatonSpec)

/-- 'laws.FnExactAutomatonAccepts', WHERE WHAT IT READS IS OF BULK AT MOST 1048576: true; the input reads as it did. -/
def fnExactAutomatonAcceptsUptoRow : OpenClaim := { program := "ytpenkpiachfnnaa", sum := "bf91aeec6f1a0cb38b0570aa406f300e37811e0a951bdbe4442a8775d658cca3", func := "loop.example/constraintsolver/laws.FnExactAutomatonAccepts", spec := "fnExactAutomatonAccepts", unfollowed := true, recurses := true, apart := false, narrowed := true }
def FnExactAutomatonAcceptsUptoSaid : Prop := fnExactAutomatonAcceptsUptoRow.holds Try.pinned (OpenSpec.upto fnExactAutomatonAcceptsSpec)

/-- 'laws.FnExactCountWords', WHERE WHAT IT READS IS OF BULK AT MOST 1048576: true; the input reads as it did. -/
def fnExactCountWordsUptoRow : OpenClaim := { program := "ytpenkpiachfnnaa", sum := "bf91aeec6f1a0cb38b0570aa406f300e37811e0a951bdbe4442a8775d658cca3", func := "loop.example/constraintsolver/laws.FnExactCountWords", spec := "fnExactCountWords", unfollowed := true, recurses := true, apart := false, narrowed := true }
def FnExactCountWordsUptoSaid : Prop := fnExactCountWordsUptoRow.holds Try.pinned (OpenSpec.upto fnExactCountWordsSpec)

/-- 'laws.FnCountWords', WHERE WHAT IT READS IS OF BULK AT MOST 1048576: true; the input reads as it did. -/
def fnCountWordsUptoRow : OpenClaim := { program := "ytpenkpiachfnnaa", sum := "bf91aeec6f1a0cb38b0570aa406f300e37811e0a951bdbe4442a8775d658cca3", func := "loop.example/constraintsolver/laws.FnCountWords", spec := "fnCountWords", unfollowed := true, recurses := true, apart := false, narrowed := true }
def FnCountWordsUptoSaid : Prop := fnCountWordsUptoRow.holds Try.pinned (OpenSpec.upto fnCountWordsSpec)

/-- 'laws.FnExactShortestDifference', WHERE WHAT IT READS IS OF BULK AT MOST 1048576: true; the input reads as it did. -/
def fnExactShortestDifferenceUptoRow : OpenClaim := { program := "ytpenkpiachfnnaa", sum := "bf91aeec6f1a0cb38b0570aa406f300e37811e0a951bdbe4442a8775d658cca3", func := "loop.example/constraintsolver/laws.FnExactShortestDifference", spec := "fnExactShortestDifference", unfollowed := true, recurses := true, apart := false, narrowed := true }
def FnExactShortestDifferenceUptoSaid : Prop := fnExactShortestDifferenceUptoRow.holds Try.pinned (OpenSpec.upto fnExactShortestDifferenceSpec)

/-- 'laws.FnDifference', WHERE WHAT IT READS IS OF BULK AT MOST 1048576: true; the input reads as it did. -/
def fnDifferenceUptoRow : OpenClaim := { program := "ytpenkpiachfnnaa", sum := "bf91aeec6f1a0cb38b0570aa406f300e37811e0a951bdbe4442a8775d658cca3", func := "loop.example/constraintsolver/laws.FnDifference", spec := "fnDifference", unfollowed := true, recurses := true, apart := false, narrowed := true }
def FnDifferenceUptoSaid : Prop := fnDifferenceUptoRow.holds Try.pinned (OpenSpec.upto fnDifferenceSpec)

end Rows
end Go.Proofs.Ytpenkpiachfnnaa
