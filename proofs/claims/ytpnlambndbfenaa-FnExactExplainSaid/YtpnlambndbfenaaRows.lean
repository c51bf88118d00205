/-
  No cell of these rows narrows 'for every input' (looked for: loops, veiled, ifaces, maps, wideKeys, modest, calm, conditions, laid).
  DERIVED. THE GIVEN ROWS OF THIS SEAT. 6 by the template 'for every input the law returns true; each argument reads behind the call as it read before'; 0 by the template 'total and deterministic' (their statements: YtpnlambndbfenaaTotals.lean).
  GIVEN WITH THE SEED: the statements are not yours to turn. If you find one false, say at which input.
  Laid BY PROGRAM, IN A SANDBOX (cutbox-rows.mjs): the forced cells as the released guide's own fill.sh prints them over the translation 21aaceaf4c747cf9… (all of the seat's roots in one cut). By AI agents, Wed Nov 11 2026. No macro, syntax, notation, axiom, sorry.
-/
import Derived.Test.YtpnlambndbfenaaChecked
import GoSem.Claim
import GoSem.ClaimJoined
import GoSem.ClaimMapViews
import Derived.JoinedTies
import Derived.KernelRfl
namespace Go.Proofs.Ytpnlambndbfenaa
/- THE CELL 'sum', in the pinned program and in every row, IS THE sha256 OF THE DUMP (.gsa) THAT YtpnlambndbfenaaProg.lean LOADS. Nothing in Lean hashes anything: it is a label: what it is worth is what the hold of that sum in a sandbox is worth. -/
noncomputable def Try.pinned : Pinned := { name := "ytpnlambndbfenaa", sum := "21aaceaf4c747cf906f97dc55687135e540fbda2121b01851cc40215fd3b6e08", checked := Try.checked }
namespace Rows
def none {H : Type} : Left H := { results := [], args := [] }

/-- 'laws.FnExactIsExplanation': WHATEVER THE INPUT: true; the input reads as it did. -/
def fnExactIsExplanationSpec : ChangeSpec := { name := "fnExactIsExplanation", fn := fun _ => fun
  | [d1, d2, d3, d4] => { results := [.lit (.bool true)], args := [d1, d2, d3, d4] }
  | _ => none }
def fnExactIsExplanationRow : OpenClaim := { program := "ytpnlambndbfenaa", sum := "21aaceaf4c747cf906f97dc55687135e540fbda2121b01851cc40215fd3b6e08", func := "loop.example/constraintsolver/laws.FnExactIsExplanation", spec := "fnExactIsExplanation", unfollowed := true, recurses := true, apart := false }
def FnExactIsExplanationSaid : Prop := fnExactIsExplanationRow.holds Try.pinned (OpenSpec.ofChange fnExactIsExplanationSpec)

/-- ITS FALSE NEIGHBOUR: 'it returns false'. Refute it at one input. -/
def fnExactIsExplanationWrong : ChangeSpec := { name := "fnExactIsExplanation", fn := fun _ => fun
  | [d1, d2, d3, d4] => { results := [.lit (.bool false)], args := [d1, d2, d3, d4] }
  | _ => none }
def FnExactIsExplanationWrongFalsely : Prop := fnExactIsExplanationRow.holds Try.pinned (OpenSpec.ofChange fnExactIsExplanationWrong)

/-- 'laws.FnExactIsSingletonConsistent': WHATEVER THE INPUT: true; the input reads as it did. -/
def fnExactIsSingletonConsistentSpec : ChangeSpec := { name := "fnExactIsSingletonConsistent", fn := fun _ => fun
  | [d] => { results := [.lit (.bool true)], args := [d] }
  | _ => none }
def fnExactIsSingletonConsistentRow : OpenClaim := { program := "ytpnlambndbfenaa", sum := "21aaceaf4c747cf906f97dc55687135e540fbda2121b01851cc40215fd3b6e08", func := "loop.example/constraintsolver/laws.FnExactIsSingletonConsistent", spec := "fnExactIsSingletonConsistent", unfollowed := true, recurses := true, apart := false }
def FnExactIsSingletonConsistentSaid : Prop := fnExactIsSingletonConsistentRow.holds Try.pinned (OpenSpec.ofChange fnExactIsSingletonConsistentSpec)

/-- ITS FALSE NEIGHBOUR: 'it returns false'. Refute it at one input. -/
def fnExactIsSingletonConsistentWrong : ChangeSpec := { name := "fnExactIsSingletonConsistent", fn := fun _ => fun
  | [d] => { results := [.lit (.bool false)], args := [d] }
  | _ => none }
def FnExactIsSingletonConsistentWrongFalsely : Prop := fnExactIsSingletonConsistentRow.holds Try.pinned (OpenSpec.ofChange fnExactIsSingletonConsistentWrong)

/-- 'laws.FnExactProbe': WHATEVER THE INPUT: true; the input reads as it did. -/
def fnExactProbeSpec : ChangeSpec := { name := "fnExactProbe", fn := fun _ => fun
  | [d1, d2, d3] => { results := [.lit (.bool true)], args := [d1, d2, d3] }
  | _ => none }
def fnExactProbeRow : OpenClaim := { program := "ytpnlambndbfenaa", sum := "21aaceaf4c747cf906f97dc55687135e540fbda2121b01851cc40215fd3b6e08", func := "loop.example/constraintsolver/laws.FnExactProbe", spec := "fnExactProbe", unfollowed := true, recurses := true, apart := false }
def FnExactProbeSaid : Prop := fnExactProbeRow.holds Try.pinned (OpenSpec.ofChange fnExactProbeSpec)

/-- ITS FALSE NEIGHBOUR: 'it returns false'. Refute it at one input. -/
def fnExactProbeWrong : ChangeSpec := { name := "fnExactProbe", fn := fun _ => fun
  | [d1, d2, d3] => { results := [.lit (.bool false)], args := [d1, d2, d3] }
  | _ => none }
def FnExactProbeWrongFalsely : Prop := fnExactProbeRow.holds Try.pinned (OpenSpec.ofChange fnExactProbeWrong)

/-- 'laws.FnExactEntails': WHATEVER THE INPUT: true; the input reads as it did. -/
def fnExactEntailsSpec : ChangeSpec := { name := "fnExactEntails", fn := fun _ => fun
  | [d1, d2] => { results := [.lit (.bool true)], args := [d1, d2] }
  | _ => none }
def fnExactEntailsRow : OpenClaim := { program := "ytpnlambndbfenaa", sum := "21aaceaf4c747cf906f97dc55687135e540fbda2121b01851cc40215fd3b6e08", func := "loop.example/constraintsolver/laws.FnExactEntails", spec := "fnExactEntails", unfollowed := true, recurses := true, apart := false }
def FnExactEntailsSaid : Prop := fnExactEntailsRow.holds Try.pinned (OpenSpec.ofChange fnExactEntailsSpec)

/-- ITS FALSE NEIGHBOUR: 'it returns false'. Refute it at one input. -/
def fnExactEntailsWrong : ChangeSpec := { name := "fnExactEntails", fn := fun _ => fun
  | [d1, d2] => { results := [.lit (.bool false)], args := [d1, d2] }
  | _ => none }
def FnExactEntailsWrongFalsely : Prop := fnExactEntailsRow.holds Try.pinned (OpenSpec.ofChange fnExactEntailsWrong)

/-- 'laws.FnExactShave': WHATEVER THE INPUT: true; the input reads as it did. -/
def fnExactShaveSpec : ChangeSpec := { name := "fnExactShave", fn := fun _ => fun
  | [d] => { results := [.lit (.bool true)], args := [d] }
  | _ => none }
def fnExactShaveRow : OpenClaim := { program := "ytpnlambndbfenaa", sum := "21aaceaf4c747cf906f97dc55687135e540fbda2121b01851cc40215fd3b6e08", func := "loop.example/constraintsolver/laws.FnExactShave", spec := "fnExactShave", unfollowed := true, recurses := true, apart := false }
def FnExactShaveSaid : Prop := fnExactShaveRow.holds Try.pinned (OpenSpec.ofChange fnExactShaveSpec)

/-- ITS FALSE NEIGHBOUR: 'it returns false'. Refute it at one input. -/
def fnExactShaveWrong : ChangeSpec := { name := "fnExactShave", fn := fun _ => fun
  | [d] => { results := [.lit (.bool false)], args := [d] }
  | _ => none }
def FnExactShaveWrongFalsely : Prop := fnExactShaveRow.holds Try.pinned (OpenSpec.ofChange fnExactShaveWrong)

/-- 'laws.FnExactExplain': WHATEVER THE INPUT: true; the input reads as it did. -/
def fnExactExplainSpec : ChangeSpec := { name := "fnExactExplain", fn := fun _ => fun
  | [d1, d2, d3] => { results := [.lit (.bool true)], args := [d1, d2, d3] }
  | _ => none }
def fnExactExplainRow : OpenClaim := { program := "ytpnlambndbfenaa", sum := "21aaceaf4c747cf906f97dc55687135e540fbda2121b01851cc40215fd3b6e08", func := "loop.example/constraintsolver/laws.FnExactExplain", spec := "fnExactExplain", unfollowed := true, recurses := true, apart := false }
def FnExactExplainSaid : Prop := fnExactExplainRow.holds Try.pinned (OpenSpec.ofChange fnExactExplainSpec)

/-- ITS FALSE NEIGHBOUR: 'it returns false'. Refute it at one input. -/
def fnExactExplainWrong : ChangeSpec := { name := "fnExactExplain", fn := fun _ => fun
  | [d1, d2, d3] => { results := [.lit (.bool false)], args := [d1, d2, d3] }
  | _ => none }
def FnExactExplainWrongFalsely : Prop := fnExactExplainRow.holds Try.pinned (OpenSpec.ofChange fnExactExplainWrong)

/- THE SECOND FORM. 'bulk': how many values and letters a reading holds, each counted each time it is reached (what is shared counts as often as it is met; a slice's spare places count too). A statement '..UptoSaid' is the law's where the arguments, and the package variables that the reading takes, are together of bulk at most 1048576: NARROWER than '..Said'. Prove '..Said' where nothing that the law and all that it calls make is longer than what came in: it says more and counts as full. Else prove '..UptoSaid'. A law counts once. -/
mutual
def uptoBulk {H : Type} : DataW H → Nat
  | .lit (.string bytes) => bytes.length + 1
  | .lit _ => 1
  | .nil => 1
  | .ptr d => uptoBulk d + 1
  | .slice elems spare => uptoBulkAll elems + uptoBulkAll spare + 1
  | .agg parts => uptoBulkAll parts + 1
  | .iface _ d => uptoBulk d + 1
  | .map entries => uptoBulkEntries entries + 1
  | .held _ => 1
def uptoBulkAll {H : Type} : List (DataW H) → Nat
  | [] => 0
  | d :: r => uptoBulk d + uptoBulkAll r
def uptoBulkEntries {H : Type} : List (Lit × DataW H) → Nat
  | [] => 0
  | x :: r => uptoBulkEntry x + uptoBulkEntries r
def uptoBulkEntry {H : Type} : Lit × DataW H → Nat
  | (.string bytes, d) => bytes.length + uptoBulk d + 1
  | (_, d) => uptoBulk d + 1
 end
def uptoSmall : (H : Type) → List (DataW H) → Bool := fun _ ds => decide (uptoBulkAll ds ≤ 1048576)
def OpenSpec.upto (s : _root_.Go.ChangeSpec) : _root_.Go.OpenSpec := { _root_.Go.OpenSpec.ofChange s with cond := some uptoSmall }

/-- 'laws.FnExactIsExplanation', WHERE WHAT IT READS IS OF BULK AT MOST 1048576: true; the input reads as it did. -/
def fnExactIsExplanationUptoRow : OpenClaim := { program := "ytpnlambndbfenaa", sum := "21aaceaf4c747cf906f97dc55687135e540fbda2121b01851cc40215fd3b6e08", func := "loop.example/constraintsolver/laws.FnExactIsExplanation", spec := "fnExactIsExplanation", unfollowed := true, recurses := true, apart := false, narrowed := true }
def FnExactIsExplanationUptoSaid : Prop := fnExactIsExplanationUptoRow.holds Try.pinned (OpenSpec.upto fnExactIsExplanationSpec)

/-- 'laws.FnExactIsSingletonConsistent', WHERE WHAT IT READS IS OF BULK AT MOST 1048576: true; the input reads as it did. -/
def fnExactIsSingletonConsistentUptoRow : OpenClaim := { program := "ytpnlambndbfenaa", sum := "21aaceaf4c747cf906f97dc55687135e540fbda2121b01851cc40215fd3b6e08", func := "loop.example/constraintsolver/laws.FnExactIsSingletonConsistent", spec := "fnExactIsSingletonConsistent", unfollowed := true, recurses := true, apart := false, narrowed := true }
def FnExactIsSingletonConsistentUptoSaid : Prop := fnExactIsSingletonConsistentUptoRow.holds Try.pinned (OpenSpec.upto fnExactIsSingletonConsistentSpec)

/-- 'laws.FnExactProbe', WHERE WHAT IT READS IS OF BULK AT MOST 1048576: true; the input reads as it did. -/
def fnExactProbeUptoRow : OpenClaim := { program := "ytpnlambndbfenaa", sum := "21aaceaf4c747cf906f97dc55687135e540fbda2121b01851cc40215fd3b6e08", func := "loop.example/constraintsolver/laws.FnExactProbe", spec := "fnExactProbe", unfollowed := true, recurses := true, apart := false, narrowed := true }
def FnExactProbeUptoSaid : Prop := fnExactProbeUptoRow.holds Try.pinned (OpenSpec.upto fnExactProbeSpec)

/-- 'laws.FnExactEntails', WHERE WHAT IT READS IS OF BULK AT MOST 1048576: true; the input reads as it did. -/
def fnExactEntailsUptoRow : OpenClaim := { program := "ytpnlambndbfenaa", sum := "21aaceaf4c747cf906f97dc55687135e540fbda2121b01851cc40215fd3b6e08", func := "loop.example/constraintsolver/laws.FnExactEntails", spec := "fnExactEntails", unfollowed := true, recurses := true, apart := false, narrowed := true }
def FnExactEntailsUptoSaid : Prop := fnExactEntailsUptoRow.holds Try.pinned (OpenSpec.upto fnExactEntailsSpec)

/-- 'laws.FnExactShave', WHERE WHAT IT READS IS OF BULK AT MOST 1048576: true; the input reads as it did. -/
def fnExactShaveUptoRow : OpenClaim := { program := "ytpnlambndbfenaa", sum := "21aaceaf4c747cf906f97dc55687135e540fbda2121b01851cc40215fd3b6e08", func := "loop.example/constraintsolver/laws.FnExactShave", spec := "fnExactShave", unfollowed := true, recurses := true, apart := false, narrowed := true }
def FnExactShaveUptoSaid : Prop := fnExactShaveUptoRow.holds Try.pinned (OpenSpec.upto fnExactShaveSpec)

/-- 'laws.FnExactExplain', WHERE WHAT IT READS IS OF BULK AT MOST 1048576: true; the input reads as it did. -/
def fnExactExplainUptoRow : OpenClaim := { program := "ytpnlambndbfenaa", sum := "21aaceaf4c747cf906f97dc55687135e540fbda2121b01851cc40215fd3b6e08", func := "loop.example/constraintsolver/laws.FnExactExplain", spec := "fnExactExplain", unfollowed := true, recurses := true, apart := false, narrowed := true }
def FnExactExplainUptoSaid : Prop := fnExactExplainUptoRow.holds Try.pinned (OpenSpec.upto fnExactExplainSpec)

end Rows
end Go.Proofs.Ytpnlambndbfenaa
