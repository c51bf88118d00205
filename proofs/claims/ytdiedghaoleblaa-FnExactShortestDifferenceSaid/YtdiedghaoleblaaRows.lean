/-
  No cell of these rows narrows 'for every input' (looked for: loops, veiled, ifaces, maps, wideKeys, modest, calm, conditions, laid).
  DERIVED. THE GIVEN ROWS OF THIS SEAT. 6 by the template 'for every input the law returns true; each argument reads behind the call as it read before'; 0 by the template 'total and deterministic' (their statements: YtdiedghaoleblaaTotals.lean).
  GIVEN WITH THE SEED: the statements are not yours to turn. If you find one false, say at which input.
  Laid BY PROGRAM, IN A SANDBOX (cutbox-rows.mjs): the forced cells as the released guide's own fill.sh prints them over the translation 9fc1f0d8c0309e8f… (all of the seat's roots in one cut). By AI agents, Wed Nov 11 2026. No macro, syntax, notation, axiom, sorry.
-/
import Derived.Test.YtdiedghaoleblaaChecked
import GoSem.Claim
import GoSem.ClaimJoined
import GoSem.ClaimMapViews
import Derived.JoinedTies
import Derived.KernelRfl
namespace Go.Proofs.Ytdiedghaoleblaa
/- THE CELL 'sum', in the pinned program and in every row, IS THE sha256 OF THE DUMP (.gsa) THAT YtdiedghaoleblaaProg.lean LOADS. Nothing in Lean hashes anything: it is a label: what it is worth is what the hold of that sum in a sandbox is worth. -/
noncomputable def Try.pinned : Pinned := { name := "ytdiedghaoleblaa", sum := "9fc1f0d8c0309e8fb57bdbd3f29f01a417a86f1094efa6a8fa2aba4b05a6ec5f", checked := Try.checked }
namespace Rows
def none {H : Type} : Left H := { results := [], args := [] }

/-- 'laws.FnMinimizeAutomaton': WHATEVER THE INPUT: true; the input reads as it did. -/
def fnMinimizeAutomatonSpec : ChangeSpec := { name := "fnMinimizeAutomaton", fn := fun _ => fun
  | [d1, d2] => { results := [.lit (.bool true)], args := [d1, d2] }
  | _ => none }
def fnMinimizeAutomatonRow : OpenClaim := { program := "ytdiedghaoleblaa", sum := "9fc1f0d8c0309e8fb57bdbd3f29f01a417a86f1094efa6a8fa2aba4b05a6ec5f", func := "loop.example/constraintsolver/laws.FnMinimizeAutomaton", spec := "fnMinimizeAutomaton", unfollowed := true, recurses := true, apart := false }
def FnMinimizeAutomatonSaid : Prop := fnMinimizeAutomatonRow.holds Try.pinned (OpenSpec.ofChange fnMinimizeAutomatonSpec)

/-- ITS FALSE NEIGHBOUR: 'it returns false'. Refute it at one input. -/
def fnMinimizeAutomatonWrong : ChangeSpec := { name := "fnMinimizeAutomaton", fn := fun _ => fun
  | [d1, d2] => { results := [.lit (.bool false)], args := [d1, d2] }
  | _ => none }
def FnMinimizeAutomatonWrongFalsely : Prop := fnMinimizeAutomatonRow.holds Try.pinned (OpenSpec.ofChange fnMinimizeAutomatonWrong)

/-- 'laws.FnComplement': WHATEVER THE INPUT: true; the input reads as it did. -/
def fnComplementSpec : ChangeSpec := { name := "fnComplement", fn := fun _ => fun
  | [d1, d2] => { results := [.lit (.bool true)], args := [d1, d2] }
  | _ => none }
def fnComplementRow : OpenClaim := { program := "ytdiedghaoleblaa", sum := "9fc1f0d8c0309e8fb57bdbd3f29f01a417a86f1094efa6a8fa2aba4b05a6ec5f", func := "loop.example/constraintsolver/laws.FnComplement", spec := "fnComplement", unfollowed := true, recurses := true, apart := false }
def FnComplementSaid : Prop := fnComplementRow.holds Try.pinned (OpenSpec.ofChange fnComplementSpec)

/-- ITS FALSE NEIGHBOUR: 'it returns false'. Refute it at one input. -/
def fnComplementWrong : ChangeSpec := { name := "fnComplement", fn := fun _ => fun
  | [d1, d2] => { results := [.lit (.bool false)], args := [d1, d2] }
  | _ => none }
def FnComplementWrongFalsely : Prop := fnComplementRow.holds Try.pinned (OpenSpec.ofChange fnComplementWrong)

/-- 'laws.FnIntersect': WHATEVER THE INPUT: true; the input reads as it did. -/
def fnIntersectSpec : ChangeSpec := { name := "fnIntersect", fn := fun _ => fun
  | [d1, d2] => { results := [.lit (.bool true)], args := [d1, d2] }
  | _ => none }
def fnIntersectRow : OpenClaim := { program := "ytdiedghaoleblaa", sum := "9fc1f0d8c0309e8fb57bdbd3f29f01a417a86f1094efa6a8fa2aba4b05a6ec5f", func := "loop.example/constraintsolver/laws.FnIntersect", spec := "fnIntersect", unfollowed := true, recurses := true, apart := false }
def FnIntersectSaid : Prop := fnIntersectRow.holds Try.pinned (OpenSpec.ofChange fnIntersectSpec)

/-- ITS FALSE NEIGHBOUR: 'it returns false'. Refute it at one input. -/
def fnIntersectWrong : ChangeSpec := { name := "fnIntersect", fn := fun _ => fun
  | [d1, d2] => { results := [.lit (.bool false)], args := [d1, d2] }
  | _ => none }
def FnIntersectWrongFalsely : Prop := fnIntersectRow.holds Try.pinned (OpenSpec.ofChange fnIntersectWrong)

/-- 'laws.FnMinimalForm': WHATEVER THE INPUT: true; the input reads as it did. -/
def fnMinimalFormSpec : ChangeSpec := { name := "fnMinimalForm", fn := fun _ => fun
  | [d] => { results := [.lit (.bool true)], args := [d] }
  | _ => none }
def fnMinimalFormRow : OpenClaim := { program := "ytdiedghaoleblaa", sum := "9fc1f0d8c0309e8fb57bdbd3f29f01a417a86f1094efa6a8fa2aba4b05a6ec5f", func := "loop.example/constraintsolver/laws.FnMinimalForm", spec := "fnMinimalForm", unfollowed := true, recurses := true, apart := false }
def FnMinimalFormSaid : Prop := fnMinimalFormRow.holds Try.pinned (OpenSpec.ofChange fnMinimalFormSpec)

/-- ITS FALSE NEIGHBOUR: 'it returns false'. Refute it at one input. -/
def fnMinimalFormWrong : ChangeSpec := { name := "fnMinimalForm", fn := fun _ => fun
  | [d] => { results := [.lit (.bool false)], args := [d] }
  | _ => none }
def FnMinimalFormWrongFalsely : Prop := fnMinimalFormRow.holds Try.pinned (OpenSpec.ofChange fnMinimalFormWrong)

/-- 'laws.FnDifference': WHATEVER THE INPUT: true; the input reads as it did. -/
def fnDifferenceSpec : ChangeSpec := { name := "fnDifference", fn := fun _ => fun
  | [d] => { results := [.lit (.bool true)], args := [d] }
  | _ => none }
def fnDifferenceRow : OpenClaim := { program := "ytdiedghaoleblaa", sum := "9fc1f0d8c0309e8fb57bdbd3f29f01a417a86f1094efa6a8fa2aba4b05a6ec5f", func := "loop.example/constraintsolver/laws.FnDifference", spec := "fnDifference", unfollowed := true, recurses := true, apart := false }
def FnDifferenceSaid : Prop := fnDifferenceRow.holds Try.pinned (OpenSpec.ofChange fnDifferenceSpec)

/-- ITS FALSE NEIGHBOUR: 'it returns false'. Refute it at one input. -/
def fnDifferenceWrong : ChangeSpec := { name := "fnDifference", fn := fun _ => fun
  | [d] => { results := [.lit (.bool false)], args := [d] }
  | _ => none }
def FnDifferenceWrongFalsely : Prop := fnDifferenceRow.holds Try.pinned (OpenSpec.ofChange fnDifferenceWrong)

/-- 'laws.FnExactShortestDifference': WHATEVER THE INPUT: true; the input reads as it did. -/
def fnExactShortestDifferenceSpec : ChangeSpec := { name := "fnExactShortestDifference", fn := fun _ => fun
  | [d1, d2] => { results := [.lit (.bool true)], args := [d1, d2] }
  | _ => none }
def fnExactShortestDifferenceRow : OpenClaim := { program := "ytdiedghaoleblaa", sum := "9fc1f0d8c0309e8fb57bdbd3f29f01a417a86f1094efa6a8fa2aba4b05a6ec5f", func := "loop.example/constraintsolver/laws.FnExactShortestDifference", spec := "fnExactShortestDifference", unfollowed := true, recurses := true, apart := false }
def FnExactShortestDifferenceSaid : Prop := fnExactShortestDifferenceRow.holds Try.pinned (OpenSpec.ofChange fnExactShortestDifferenceSpec)

/-- ITS FALSE NEIGHBOUR: 'it returns false'. Refute it at one input. -/
def fnExactShortestDifferenceWrong : ChangeSpec := { name := "fnExactShortestDifference", fn := fun _ => fun
  | [d1, d2] => { results := [.lit (.bool false)], args := [d1, d2] }
  | _ => none }
def FnExactShortestDifferenceWrongFalsely : Prop := fnExactShortestDifferenceRow.holds Try.pinned (OpenSpec.ofChange fnExactShortestDifferenceWrong)

/- THE SECOND FORM. 'bulk': how many values and letters a reading holds, each counted each time it is reached (what is shared counts as often as it is met; a slice's spare places count too). A statement '..UptoSaid' is the law's where the arguments, and the package variables that the reading takes, are together of bulk at most 1048576: NARROWER than '..Said'. Prove '..Said' where nothing that the law and all that it calls make is longer than what came in: it says more and counts as full. Else prove '..UptoSaid'. A law counts once. -/
mutual
def uptoBulk {H : Type} : DataW H → Nat
  | .lit (.string bytes) => bytes.length + 1
  | .lit _ => 1
  | .nil => 1
  | .ptr d => uptoBulk d + 1
  | .slice elems spare => uptoBulkAll elems + uptoBulkAll spare + 1
  | .agg parts => uptoBulkAll parts + 1
  | .iface _ d => uptoBulk d + 1
  | .map entries => uptoBulkEntries entries + 1
  | .held _ => 1
def uptoBulkAll {H : Type} : List (DataW H) → Nat
  | [] => 0
  | d :: r => uptoBulk d + uptoBulkAll r
def uptoBulkEntries {H : Type} : List (Lit × DataW H) → Nat
  | [] => 0
  | x :: r => uptoBulkEntry x + uptoBulkEntries r
def uptoBulkEntry {H : Type} : Lit × DataW H → Nat
  | (.string bytes, d) => bytes.length + uptoBulk d + 1
  | (_, d) => uptoBulk d + 1
 end
def uptoSmall : (H : Type) → List (DataW H) → Bool := fun _ ds => decide (uptoBulkAll ds ≤ 1048576)
def OpenSpec.upto (s : _root_.Go.ChangeSpec) : _root_.Go.OpenSpec := { _root_.Go.OpenSpec.ofChange s with cond := some uptoSmall }

/-- 'laws.FnMinimizeAutomaton', WHERE WHAT IT READS IS OF BULK AT MOST 1048576: true; the input reads as it did. -/
def fnMinimizeAutomatonUptoRow : OpenClaim := { program := "ytdiedghaoleblaa", sum := "9fc1f0d8c0309e8fb57bdbd3f29f01a417a86f1094efa6a8fa2aba4b05a6ec5f", func := "loop.example/constraintsolver/laws.FnMinimizeAutomaton", spec := "fnMinimizeAutomaton", unfollowed := true, recurses := true, apart := false, narrowed := true }
def FnMinimizeAutomatonUptoSaid : Prop := fnMinimizeAutomatonUptoRow.holds Try.pinned (OpenSpec.upto fnMinimizeAutomatonSpec)

/-- 'laws.FnComplement', WHERE WHAT IT READS IS OF BULK AT MOST 1048576: true; the input reads as it did. -/
def fnComplementUptoRow : OpenClaim := { program := "ytdiedghaoleblaa", sum := "9fc1f0d8c0309e8fb57bdbd3f29f01a417a86f1094efa6a8fa2aba4b05a6ec5f", func := "loop.example/constraintsolver/laws.FnComplement", spec := "fnComplement", unfollowed := true, recurses := true, apart := false, narrowed := true }
def FnComplementUptoSaid : Prop := fnComplementUptoRow.holds Try.pinned (OpenSpec.upto fnComplementSpec)

/-- 'laws.FnIntersect', WHERE WHAT IT READS IS OF BULK AT MOST 1048576: true; the input reads as it did. -/
def fnIntersectUptoRow : OpenClaim := { program := "ytdiedghaoleblaa", sum := "9fc1f0d8c0309e8fb57bdbd3f29f01a417a86f1094efa6a8fa2aba4b05a6ec5f", func := "loop.example/constraintsolver/laws.FnIntersect", spec := "fnIntersect", unfollowed := true, recurses := true, apart := false, narrowed := true }
def FnIntersectUptoSaid : Prop := fnIntersectUptoRow.holds Try.pinned (OpenSpec.upto fnIntersectSpec)

/-- 'laws.FnMinimalForm', WHERE WHAT IT READS IS OF BULK AT MOST 1048576: true; the input reads as it did. -/
def fnMinimalFormUptoRow : OpenClaim := { program := "ytdiedghaoleblaa", sum := "9fc1f0d8c0309e8fb57bdbd3f29f01a417a86f1094efa6a8fa2aba4b05a6ec5f", func := "loop.example/constraintsolver/laws.FnMinimalForm", spec := "fnMinimalForm", unfollowed := true, recurses := true, apart := false, narrowed := true }
def FnMinimalFormUptoSaid : Prop := fnMinimalFormUptoRow.holds Try.pinned (OpenSpec.upto fnMinimalFormSpec)

/-- 'laws.FnDifference', WHERE WHAT IT READS IS OF BULK AT MOST 1048576: true; the input reads as it did. -/
def fnDifferenceUptoRow : OpenClaim := { program := "ytdiedghaoleblaa", sum := "9fc1f0d8c0309e8fb57bdbd3f29f01a417a86f1094efa6a8fa2aba4b05a6ec5f", func := "loop.example/constraintsolver/laws.FnDifference", spec := "fnDifference", unfollowed := true, recurses := true, apart := false, narrowed := true }
def FnDifferenceUptoSaid : Prop := fnDifferenceUptoRow.holds Try.pinned (OpenSpec.upto fnDifferenceSpec)

/-- 'laws.FnExactShortestDifference', WHERE WHAT IT READS IS OF BULK AT MOST 1048576: true; the input reads as it did. -/
def fnExactShortestDifferenceUptoRow : OpenClaim := { program := "ytdiedghaoleblaa", sum := "9fc1f0d8c0309e8fb57bdbd3f29f01a417a86f1094efa6a8fa2aba4b05a6ec5f", func := "loop.example/constraintsolver/laws.FnExactShortestDifference", spec := "fnExactShortestDifference", unfollowed := true, recurses := true, apart := false, narrowed := true }
def FnExactShortestDifferenceUptoSaid : Prop := fnExactShortestDifferenceUptoRow.holds Try.pinned (OpenSpec.upto fnExactShortestDifferenceSpec)

end Rows
end Go.Proofs.Ytdiedghaoleblaa
