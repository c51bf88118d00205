/-
  No cell of these rows narrows 'for every input' (looked for: loops, veiled, ifaces, maps, wideKeys, modest, calm, conditions, laid).
  DERIVED. THE GIVEN ROWS OF THIS SEAT. 4 by the template 'for every input the law returns true; each argument reads behind the call as it read before'; 0 by the template 'total and deterministic' (their statements: YtbdialoimbooeaaTotals.lean).
  GIVEN WITH THE SEED: the statements are not yours to turn. If you find one false, say at which input.
  Laid BY PROGRAM, IN A SANDBOX (cutbox-rows.mjs): the forced cells as the released guide's own fill.sh prints them over the translation 8e98da9061c115e2… (all of the seat's roots in one cut). By AI agents, Wed Nov 11 2026. No macro, syntax, notation, axiom, sorry.
-/
import Derived.Test.YtbdialoimbooeaaChecked
import GoSem.Claim
import GoSem.ClaimJoined
import GoSem.ClaimMapViews
import Derived.JoinedTies
import Derived.KernelRfl
namespace Go.Proofs.Ytbdialoimbooeaa
/- THE CELL 'sum', in the pinned program and in every row, IS THE sha256 OF THE DUMP (.gsa) THAT YtbdialoimbooeaaProg.lean LOADS. Nothing in Lean hashes anything: it is a label: what it is worth is what the hold of that sum in a sandbox is worth. -/
noncomputable def Try.pinned : Pinned := { name := "ytbdialoimbooeaa", sum := "8e98da9061c115e2c691e50bef78b710e2e882b8cbb40098d92bd58bcdc2b6f1", checked := Try.checked }
namespace Rows
def none {H : Type} : Left H := { results := [], args := [] }

/-- 'laws.FnExactMinimizeAutomaton': WHATEVER THE INPUT: true; the input reads as it did. -/
def fnExactMinimizeAutomatonSpec : ChangeSpec := { name := "fnExactMinimizeAutomaton", fn := fun _ => fun
  | [d] => { results := [.lit (.bool true)], args := [d] }
  | _ => none }
def fnExactMinimizeAutomatonRow : OpenClaim := { program := "ytbdialoimbooeaa", sum := "8e98da9061c115e2c691e50bef78b710e2e882b8cbb40098d92bd58bcdc2b6f1", func := "loop.example/constraintsolver/laws.FnExactMinimizeAutomaton", spec := "fnExactMinimizeAutomaton", unfollowed := true, recurses := true, apart := false }
def FnExactMinimizeAutomatonSaid : Prop := fnExactMinimizeAutomatonRow.holds Try.pinned (OpenSpec.ofChange fnExactMinimizeAutomatonSpec)

/-- ITS FALSE NEIGHBOUR: 'it returns false'. Refute it at one input. -/
def fnExactMinimizeAutomatonWrong : ChangeSpec := { name := "fnExactMinimizeAutomaton", fn := fun _ => fun
  | [d] => { results := [.lit (.bool false)], args := [d] }
  | _ => none }
def FnExactMinimizeAutomatonWrongFalsely : Prop := fnExactMinimizeAutomatonRow.holds Try.pinned (OpenSpec.ofChange fnExactMinimizeAutomatonWrong)

/-- 'laws.FnExactComplementAutomaton': WHATEVER THE INPUT: true; the input reads as it did. -/
def fnExactComplementAutomatonSpec : ChangeSpec := { name := "fnExactComplementAutomaton", fn := fun _ => fun
  | [d] => { results := [.lit (.bool true)], args := [d] }
  | _ => none }
def fnExactComplementAutomatonRow : OpenClaim := { program := "ytbdialoimbooeaa", sum := "8e98da9061c115e2c691e50bef78b710e2e882b8cbb40098d92bd58bcdc2b6f1", func := "loop.example/constraintsolver/laws.FnExactComplementAutomaton", spec := "fnExactComplementAutomaton", unfollowed := true, recurses := true, apart := false }
def FnExactComplementAutomatonSaid : Prop := fnExactComplementAutomatonRow.holds Try.pinned (OpenSpec.ofChange fnExactComplementAutomatonSpec)

/-- ITS FALSE NEIGHBOUR: 'it returns false'. Refute it at one input. -/
def fnExactComplementAutomatonWrong : ChangeSpec := { name := "fnExactComplementAutomaton", fn := fun _ => fun
  | [d] => { results := [.lit (.bool false)], args := [d] }
  | _ => none }
def FnExactComplementAutomatonWrongFalsely : Prop := fnExactComplementAutomatonRow.holds Try.pinned (OpenSpec.ofChange fnExactComplementAutomatonWrong)

/-- 'laws.FnExactIntersectAutomata': WHATEVER THE INPUT: true; the input reads as it did. -/
def fnExactIntersectAutomataSpec : ChangeSpec := { name := "fnExactIntersectAutomata", fn := fun _ => fun
  | [d1, d2] => { results := [.lit (.bool true)], args := [d1, d2] }
  | _ => none }
def fnExactIntersectAutomataRow : OpenClaim := { program := "ytbdialoimbooeaa", sum := "8e98da9061c115e2c691e50bef78b710e2e882b8cbb40098d92bd58bcdc2b6f1", func := "loop.example/constraintsolver/laws.FnExactIntersectAutomata", spec := "fnExactIntersectAutomata", unfollowed := true, recurses := true, apart := false }
def FnExactIntersectAutomataSaid : Prop := fnExactIntersectAutomataRow.holds Try.pinned (OpenSpec.ofChange fnExactIntersectAutomataSpec)

/-- ITS FALSE NEIGHBOUR: 'it returns false'. Refute it at one input. -/
def fnExactIntersectAutomataWrong : ChangeSpec := { name := "fnExactIntersectAutomata", fn := fun _ => fun
  | [d1, d2] => { results := [.lit (.bool false)], args := [d1, d2] }
  | _ => none }
def FnExactIntersectAutomataWrongFalsely : Prop := fnExactIntersectAutomataRow.holds Try.pinned (OpenSpec.ofChange fnExactIntersectAutomataWrong)

/-- 'laws.FnExactShortestDifference': WHATEVER THE INPUT: true; the input reads as it did. -/
def fnExactShortestDifferenceSpec : ChangeSpec := { name := "fnExactShortestDifference", fn := fun _ => fun
  | [d1, d2] => { results := [.lit (.bool true)], args := [d1, d2] }
  | _ => none }
def fnExactShortestDifferenceRow : OpenClaim := { program := "ytbdialoimbooeaa", sum := "8e98da9061c115e2c691e50bef78b710e2e882b8cbb40098d92bd58bcdc2b6f1", func := "loop.example/constraintsolver/laws.FnExactShortestDifference", spec := "fnExactShortestDifference", unfollowed := true, recurses := true, apart := false }
def FnExactShortestDifferenceSaid : Prop := fnExactShortestDifferenceRow.holds Try.pinned (OpenSpec.ofChange fnExactShortestDifferenceSpec)

/-- ITS FALSE NEIGHBOUR: 'it returns false'. Refute it at one input. -/
def fnExactShortestDifferenceWrong : ChangeSpec := { name := "fnExactShortestDifference", fn := fun _ => fun
  | [d1, d2] => { results := [.lit (.bool false)], args := [d1, d2] }
  | _ => none }
def FnExactShortestDifferenceWrongFalsely : Prop := fnExactShortestDifferenceRow.holds Try.pinned (OpenSpec.ofChange fnExactShortestDifferenceWrong)

/- THE SECOND FORM. 'bulk': how many values and letters a reading holds, each counted each time it is reached (what is shared counts as often as it is met; a slice's spare places count too). A statement '..UptoSaid' is the law's where the arguments, and the package variables that the reading takes, are together of bulk at most 1048576: NARROWER than '..Said'. Prove '..Said' where nothing that the law and all that it calls make is longer than what came in: it says more and counts as full. Else prove '..UptoSaid'. A law counts once. -/
mutual
def uptoBulk {H : Type} : DataW H → Nat
  | .lit (.string bytes) => bytes.length + 1
  | .lit _ => 1
  | .nil => 1
  | .ptr d => uptoBulk d + 1
  | .slice elems spare => uptoBulkAll elems + uptoBulkAll spare + 1
  | .agg parts => uptoBulkAll parts + 1
  | .iface _ d => uptoBulk d + 1
  | .map entries => uptoBulkEntries entries + 1
  | .held _ => 1
def uptoBulkAll {H : Type} : List (DataW H) → Nat
  | [] => 0
  | d :: r => uptoBulk d + uptoBulkAll r
def uptoBulkEntries {H : Type} : List (Lit × DataW H) → Nat
  | [] => 0
  | x :: r => uptoBulkEntry x + uptoBulkEntries r
def uptoBulkEntry {H : Type} : Lit × DataW H → Nat
  | (.string bytes, d) => bytes.length + uptoBulk d + 1
  | (_, d) => uptoBulk d + 1
 end
def uptoSmall : (H : Type) → List (DataW H) → Bool := fun _ ds => decide (uptoBulkAll ds ≤ 1048576)
def OpenSpec.upto (s : _root_.Go.ChangeSpec) : _root_.Go.OpenSpec := { _root_.Go.OpenSpec.ofChange s with cond := some uptoSmall }

/-- 'laws.FnExactMinimizeAutomaton', WHERE WHAT IT READS IS OF BULK AT MOST 1048576: true; the input reads as it did. -/
def fnExactMinimizeAutomatonUptoRow : OpenClaim := { program := "ytbdialoimbooeaa", sum := "8e98da9061c115e2c691e50bef78b710e2e882b8cbb40098d92bd58bcdc2b6f1", func := "loop.example/constraintsolver/laws.FnExactMinimizeAutomaton", spec := "fnExactMinimizeAutomaton", unfollowed := true, recurses := true, apart := false, narrowed := true }
def FnExactMinimizeAutomatonUptoSaid : Prop := fnExactMinimizeAutomatonUptoRow.holds Try.pinned (OpenSpec.upto fnExactMinimizeAutomatonSpec)

/-- 'laws.FnExactComplementAutomaton', WHERE WHAT IT READS IS OF BULK AT MOST 1048576: true; the input reads as it did. -/
def fnExactComplementAutomatonUptoRow : OpenClaim := { program := "ytbdialoimbooeaa", sum := "8e98da9061c115e2c691e50bef78b710e2e882b8cbb40098d92bd58bcdc2b6f1", func := "loop.example/constraintsolver/laws.FnExactComplementAutomaton", spec := "fnExactComplementAutomaton", unfollowed := true, recurses := true, apart := false, narrowed := true }
def FnExactComplementAutomatonUptoSaid : Prop := fnExactComplementAutomatonUptoRow.holds Try.pinned (OpenSpec.upto fnExactComplementAutomatonSpec)

/-- 'laws.FnExactIntersectAutomata', WHERE WHAT IT READS IS OF BULK AT MOST 1048576: true; the input reads as it did. -/
def fnExactIntersectAutomataUptoRow : OpenClaim := { program := "ytbdialoimbooeaa", sum := "8e98da9061c115e2c691e50bef78b710e2e882b8cbb40098d92bd58bcdc2b6f1", func := "loop.example/constraintsolver/laws.FnExactIntersectAutomata", spec := "fnExactIntersectAutomata", unfollowed := true, recurses := true, apart := false, narrowed := true }
def FnExactIntersectAutomataUptoSaid : Prop := fnExactIntersectAutomataUptoRow.holds Try.pinned (OpenSpec.upto fnExactIntersectAutomataSpec)

/-- 'laws.FnExactShortestDifference', WHERE WHAT IT READS IS OF BULK AT MOST 1048576: true; the input reads as it did. -/
def fnExactShortestDifferenceUptoRow : OpenClaim := { program := "ytbdialoimbooeaa", sum := "8e98da9061c115e2c691e50bef78b710e2e882b8cbb40098d92bd58bcdc2b6f1", func := "loop.example/constraintsolver/laws.FnExactShortestDifference", spec := "fnExactShortestDifference", unfollowed := true, recurses := true, apart := false, narrowed := true }
def FnExactShortestDifferenceUptoSaid : Prop := fnExactShortestDifferenceUptoRow.holds Try.pinned (OpenSpec.upto fnExactShortestDifferenceSpec)

end Rows
end Go.Proofs.Ytbdialoimbooeaa
