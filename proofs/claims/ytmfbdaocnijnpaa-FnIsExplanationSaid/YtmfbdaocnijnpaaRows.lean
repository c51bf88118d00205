/-
  No cell of these rows narrows 'for every input' (looked for: loops, veiled, ifaces, maps, wideKeys, modest, calm, conditions, laid).
  DERIVED. THE GIVEN ROWS OF THIS SEAT. 3 by the template 'for every input the law returns true; each argument reads behind the call as it read before'; 0 by the template 'total and deterministic' (their statements: YtmfbdaocnijnpaaTotals.lean).
  GIVEN WITH THE SEED: the statements are not yours to turn. If you find one false, say at which input.
  Laid BY PROGRAM, IN A SANDBOX (cutbox-rows.mjs): the forced cells as the released guide's own fill.sh prints them over the translation 27d81fd0e51037a9… (all of the seat's roots in one cut). By AI agents, Wed Nov 11 2026. No macro, syntax, notation, axiom, sorry.
-/
import Derived.Test.YtmfbdaocnijnpaaChecked
import GoSem.Claim
import GoSem.ClaimJoined
import GoSem.ClaimMapViews
import Derived.JoinedTies
import Derived.KernelRfl
namespace Go.Proofs.Ytmfbdaocnijnpaa
/- THE CELL 'sum', in the pinned program and in every row, IS THE sha256 OF THE DUMP (.gsa) THAT YtmfbdaocnijnpaaProg.lean LOADS. Nothing in Lean hashes anything: it is a label: what it is worth is what the hold of that sum in a sandbox is worth. -/
noncomputable def Try.pinned : Pinned := { name := "ytmfbdaocnijnpaa", sum := "27d81fd0e51037a9de1f4cd8a72ea96d1bff554ca3f85a2983844dfdf5a4b7c7", checked := Try.checked }
namespace Rows
def none {H : Type} : Left H := { results := [], args := [] }

/-- 'laws.FnIsExplanation': WHATEVER THE INPUT: true; the input reads as it did. -/
def fnIsExplanationSpec : ChangeSpec := { name := "fnIsExplanation", fn := fun _ => fun
  | [d1, d2] => { results := [.lit (.bool true)], args := [d1, d2] }
  | _ => none }
def fnIsExplanationRow : OpenClaim := { program := "ytmfbdaocnijnpaa", sum := "27d81fd0e51037a9de1f4cd8a72ea96d1bff554ca3f85a2983844dfdf5a4b7c7", func := "loop.example/constraintsolver/laws.FnIsExplanation", spec := "fnIsExplanation", unfollowed := true, recurses := true, apart := false }
def FnIsExplanationSaid : Prop := fnIsExplanationRow.holds Try.pinned (OpenSpec.ofChange fnIsExplanationSpec)

/-- ITS FALSE NEIGHBOUR: 'it returns false'. Refute it at one input. -/
def fnIsExplanationWrong : ChangeSpec := { name := "fnIsExplanation", fn := fun _ => fun
  | [d1, d2] => { results := [.lit (.bool false)], args := [d1, d2] }
  | _ => none }
def FnIsExplanationWrongFalsely : Prop := fnIsExplanationRow.holds Try.pinned (OpenSpec.ofChange fnIsExplanationWrong)

/-- 'laws.FnExplainFilter': WHATEVER THE INPUT: true; the input reads as it did. -/
def fnExplainFilterSpec : ChangeSpec := { name := "fnExplainFilter", fn := fun _ => fun
  | [d] => { results := [.lit (.bool true)], args := [d] }
  | _ => none }
def fnExplainFilterRow : OpenClaim := { program := "ytmfbdaocnijnpaa", sum := "27d81fd0e51037a9de1f4cd8a72ea96d1bff554ca3f85a2983844dfdf5a4b7c7", func := "loop.example/constraintsolver/laws.FnExplainFilter", spec := "fnExplainFilter", unfollowed := true, recurses := true, apart := false }
def FnExplainFilterSaid : Prop := fnExplainFilterRow.holds Try.pinned (OpenSpec.ofChange fnExplainFilterSpec)

/-- ITS FALSE NEIGHBOUR: 'it returns false'. Refute it at one input. -/
def fnExplainFilterWrong : ChangeSpec := { name := "fnExplainFilter", fn := fun _ => fun
  | [d] => { results := [.lit (.bool false)], args := [d] }
  | _ => none }
def FnExplainFilterWrongFalsely : Prop := fnExplainFilterRow.holds Try.pinned (OpenSpec.ofChange fnExplainFilterWrong)

/-- 'laws.FnExplain': WHATEVER THE INPUT: true; the input reads as it did. -/
def fnExplainSpec : ChangeSpec := { name := "fnExplain", fn := fun _ => fun
  | [d] => { results := [.lit (.bool true)], args := [d] }
  | _ => none }
def fnExplainRow : OpenClaim := { program := "ytmfbdaocnijnpaa", sum := "27d81fd0e51037a9de1f4cd8a72ea96d1bff554ca3f85a2983844dfdf5a4b7c7", func := "loop.example/constraintsolver/laws.FnExplain", spec := "fnExplain", unfollowed := true, recurses := true, apart := false }
def FnExplainSaid : Prop := fnExplainRow.holds Try.pinned (OpenSpec.ofChange fnExplainSpec)

/-- ITS FALSE NEIGHBOUR: 'it returns false'. Refute it at one input. -/
def fnExplainWrong : ChangeSpec := { name := "fnExplain", fn := fun _ => fun
  | [d] => { results := [.lit (.bool false)], args := [d] }
  | _ => none }
def FnExplainWrongFalsely : Prop := fnExplainRow.holds Try.pinned (OpenSpec.ofChange fnExplainWrong)

/- THE SECOND FORM. 'bulk': how many values and letters a reading holds, each counted each time it is reached (what is shared counts as often as it is met; a slice's spare places count too). A statement '..UptoSaid' is the law's where the arguments, and the package variables that the reading takes, are together of bulk at most 1048576: NARROWER than '..Said'. Prove '..Said' where nothing that the law and all that it calls make is longer than what came in: it says more and counts as full. Else prove '..UptoSaid'. A law counts once. -/
mutual
def uptoBulk {H : Type} : DataW H → Nat
  | .lit (.string bytes) => bytes.length + 1
  | .lit _ => 1
  | .nil => 1
  | .ptr d => uptoBulk d + 1
  | .slice elems spare => uptoBulkAll elems + uptoBulkAll spare + 1
  | .agg parts => uptoBulkAll parts + 1
  | .iface _ d => uptoBulk d + 1
  | .map entries => uptoBulkEntries entries + 1
  | .held _ => 1
def uptoBulkAll {H : Type} : List (DataW H) → Nat
  | [] => 0
  | d :: r => uptoBulk d + uptoBulkAll r
def uptoBulkEntries {H : Type} : List (Lit × DataW H) → Nat
  | [] => 0
  | x :: r => uptoBulkEntry x + uptoBulkEntries r
def uptoBulkEntry {H : Type} : Lit × DataW H → Nat
  | (.string bytes, d) => bytes.length + uptoBulk d + 1
  | (_, d) => uptoBulk d + 1
 end
def uptoSmall : (H : Type) → List (DataW H) → Bool := fun _ ds => decide (uptoBulkAll ds ≤ 1048576)
def OpenSpec.upto (s : _root_.Go.ChangeSpec) : _root_.Go.OpenSpec := { _root_.Go.OpenSpec.ofChange s with cond := some uptoSmall }

/-- 'laws.FnIsExplanation', WHERE WHAT IT READS IS OF BULK AT MOST 1048576: true; the input reads as it did. -/
def fnIsExplanationUptoRow : OpenClaim := { program := "ytmfbdaocnijnpaa", sum := "27d81fd0e51037a9de1f4cd8a72ea96d1bff554ca3f85a2983844dfdf5a4b7c7", func := "loop.example/constraintsolver/laws.FnIsExplanation", spec := "fnIsExplanation", unfollowed := true, recurses := true, apart := false, narrowed := true }
def FnIsExplanationUptoSaid : Prop := fnIsExplanationUptoRow.holds Try.pinned (OpenSpec.upto fnIsExplanationSpec)

/-- 'laws.FnExplainFilter', WHERE WHAT IT READS IS OF BULK AT MOST 1048576: true; the input reads as it did. -/
def fnExplainFilterUptoRow : OpenClaim := { program := "ytmfbdaocnijnpaa", sum := "27d81fd0e51037a9de1f4cd8a72ea96d1bff554ca3f85a2983844dfdf5a4b7c7", func := "loop.example/constraintsolver/laws.FnExplainFilter", spec := "fnExplainFilter", unfollowed := true, recurses := true, apart := false, narrowed := true }
def FnExplainFilterUptoSaid : Prop := fnExplainFilterUptoRow.holds Try.pinned (OpenSpec.upto fnExplainFilterSpec)

/-- 'laws.FnExplain', WHERE WHAT IT READS IS OF BULK AT MOST 1048576: true; the input reads as it did. -/
def fnExplainUptoRow : OpenClaim := { program := "ytmfbdaocnijnpaa", sum := "27d81fd0e51037a9de1f4cd8a72ea96d1bff554ca3f85a2983844dfdf5a4b7c7", func := "loop.example/constraintsolver/laws.FnExplain", spec := "fnExplain", unfollowed := true, recurses := true, apart := false, narrowed := true }
def FnExplainUptoSaid : Prop := fnExplainUptoRow.holds Try.pinned (OpenSpec.upto fnExplainSpec)

end Rows
end Go.Proofs.Ytmfbdaocnijnpaa
