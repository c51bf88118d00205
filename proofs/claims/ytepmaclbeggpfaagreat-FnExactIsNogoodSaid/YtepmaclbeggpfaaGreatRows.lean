/-
  No cell of these rows narrows 'for every input' (looked for: loops, veiled, ifaces, maps, wideKeys, modest, calm, conditions, laid).
  DERIVED. THE GIVEN ROWS OF THIS SEAT. 4 by the template 'for every input the law returns true; each argument reads behind the call as it read before'; 0 by the template 'total and deterministic' (their statements: YtepmaclbeggpfaaGreatTotals.lean).
  GIVEN WITH THE SEED: the statements are not yours to turn. If you find one false, say at which input.
  Laid BY PROGRAM, IN A SANDBOX (cutbox-rows.mjs): the forced cells as the released guide's own fill.sh prints them over the translation f78d9d6dd6323441… (all of the seat's roots in one cut). By AI agents, Wed Nov 11 2026. No macro, syntax, notation, axiom, sorry.
-/
import Derived.Test.YtepmaclbeggpfaaGreatChecked
import GoSem.Claim
import GoSem.ClaimJoined
import GoSem.ClaimMapViews
import Derived.JoinedTies
import Derived.KernelRfl
namespace Go.Proofs.YtepmaclbeggpfaaGreat
/- THE CELL 'sum', in the pinned program and in every row, IS THE sha256 OF THE DUMP (.gsa) THAT YtepmaclbeggpfaaGreatProg.lean LOADS. Nothing in Lean hashes anything: it is a label: what it is worth is what the hold of that sum in a sandbox is worth. -/
noncomputable def Tryz.pinned : Pinned := { name := "ytepmaclbeggpfaagreat", sum := "f78d9d6dd6323441407266e9b0769cb359abdc01e855da588fabd66159b93115", checked := Tryz.checked }
namespace Rows
def none {H : Type} : Left H := { results := [], args := [] }

/-- 'laws.FnExactRefutes': WHATEVER THE INPUT: true; the input reads as it did. -/
def fnExactRefutesSpec : ChangeSpec := { name := "fnExactRefutes", fn := fun _ => fun
  | [d1, d2] => { results := [.lit (.bool true)], args := [d1, d2] }
  | _ => none }
def fnExactRefutesRow : OpenClaim := { program := "ytepmaclbeggpfaagreat", sum := "f78d9d6dd6323441407266e9b0769cb359abdc01e855da588fabd66159b93115", func := "loop.example/constraintsolver/laws.FnExactRefutes", spec := "fnExactRefutes", unfollowed := true, recurses := true, apart := false }
def FnExactRefutesSaid : Prop := fnExactRefutesRow.holds Tryz.pinned (OpenSpec.ofChange fnExactRefutesSpec)

/-- ITS FALSE NEIGHBOUR: 'it returns false'. Refute it at one input. -/
def fnExactRefutesWrong : ChangeSpec := { name := "fnExactRefutes", fn := fun _ => fun
  | [d1, d2] => { results := [.lit (.bool false)], args := [d1, d2] }
  | _ => none }
def FnExactRefutesWrongFalsely : Prop := fnExactRefutesRow.holds Tryz.pinned (OpenSpec.ofChange fnExactRefutesWrong)

/-- 'laws.FnExactIsNogood': WHATEVER THE INPUT: true; the input reads as it did. -/
def fnExactIsNogoodSpec : ChangeSpec := { name := "fnExactIsNogood", fn := fun _ => fun
  | [d1, d2] => { results := [.lit (.bool true)], args := [d1, d2] }
  | _ => none }
def fnExactIsNogoodRow : OpenClaim := { program := "ytepmaclbeggpfaagreat", sum := "f78d9d6dd6323441407266e9b0769cb359abdc01e855da588fabd66159b93115", func := "loop.example/constraintsolver/laws.FnExactIsNogood", spec := "fnExactIsNogood", unfollowed := true, recurses := true, apart := false }
def FnExactIsNogoodSaid : Prop := fnExactIsNogoodRow.holds Tryz.pinned (OpenSpec.ofChange fnExactIsNogoodSpec)

/-- ITS FALSE NEIGHBOUR: 'it returns false'. Refute it at one input. -/
def fnExactIsNogoodWrong : ChangeSpec := { name := "fnExactIsNogood", fn := fun _ => fun
  | [d1, d2] => { results := [.lit (.bool false)], args := [d1, d2] }
  | _ => none }
def FnExactIsNogoodWrongFalsely : Prop := fnExactIsNogoodRow.holds Tryz.pinned (OpenSpec.ofChange fnExactIsNogoodWrong)

/-- 'laws.FnExactPropagateClauses': WHATEVER THE INPUT: true; the input reads as it did. -/
def fnExactPropagateClausesSpec : ChangeSpec := { name := "fnExactPropagateClauses", fn := fun _ => fun
  | [d1, d2] => { results := [.lit (.bool true)], args := [d1, d2] }
  | _ => none }
def fnExactPropagateClausesRow : OpenClaim := { program := "ytepmaclbeggpfaagreat", sum := "f78d9d6dd6323441407266e9b0769cb359abdc01e855da588fabd66159b93115", func := "loop.example/constraintsolver/laws.FnExactPropagateClauses", spec := "fnExactPropagateClauses", unfollowed := true, recurses := true, apart := false }
def FnExactPropagateClausesSaid : Prop := fnExactPropagateClausesRow.holds Tryz.pinned (OpenSpec.ofChange fnExactPropagateClausesSpec)

/-- ITS FALSE NEIGHBOUR: 'it returns false'. Refute it at one input. -/
def fnExactPropagateClausesWrong : ChangeSpec := { name := "fnExactPropagateClauses", fn := fun _ => fun
  | [d1, d2] => { results := [.lit (.bool false)], args := [d1, d2] }
  | _ => none }
def FnExactPropagateClausesWrongFalsely : Prop := fnExactPropagateClausesRow.holds Tryz.pinned (OpenSpec.ofChange fnExactPropagateClausesWrong)

/-- 'laws.FnExactMinimalNogood': WHATEVER THE INPUT: true; the input reads as it did. -/
def fnExactMinimalNogoodSpec : ChangeSpec := { name := "fnExactMinimalNogood", fn := fun _ => fun
  | [d1, d2] => { results := [.lit (.bool true)], args := [d1, d2] }
  | _ => none }
def fnExactMinimalNogoodRow : OpenClaim := { program := "ytepmaclbeggpfaagreat", sum := "f78d9d6dd6323441407266e9b0769cb359abdc01e855da588fabd66159b93115", func := "loop.example/constraintsolver/laws.FnExactMinimalNogood", spec := "fnExactMinimalNogood", unfollowed := true, recurses := true, apart := false }
def FnExactMinimalNogoodSaid : Prop := fnExactMinimalNogoodRow.holds Tryz.pinned (OpenSpec.ofChange fnExactMinimalNogoodSpec)

/-- ITS FALSE NEIGHBOUR: 'it returns false'. Refute it at one input. -/
def fnExactMinimalNogoodWrong : ChangeSpec := { name := "fnExactMinimalNogood", fn := fun _ => fun
  | [d1, d2] => { results := [.lit (.bool false)], args := [d1, d2] }
  | _ => none }
def FnExactMinimalNogoodWrongFalsely : Prop := fnExactMinimalNogoodRow.holds Tryz.pinned (OpenSpec.ofChange fnExactMinimalNogoodWrong)

/- THE SECOND FORM. 'bulk': how many values and letters a reading holds, each counted each time it is reached (what is shared counts as often as it is met; a slice's spare places count too). A statement '..UptoSaid' is the law's where the arguments, and the package variables that the reading takes, are together of bulk at most 1048576: NARROWER than '..Said'. Prove '..Said' where nothing that the law and all that it calls make is longer than what came in: it says more and counts as full. Else prove '..UptoSaid'. A law counts once. -/
mutual
def uptoBulk {H : Type} : DataW H → Nat
  | .lit (.string bytes) => bytes.length + 1
  | .lit _ => 1
  | .nil => 1
  | .ptr d => uptoBulk d + 1
  | .slice elems spare => uptoBulkAll elems + uptoBulkAll spare + 1
  | .agg parts => uptoBulkAll parts + 1
  | .iface _ d => uptoBulk d + 1
  | .map entries => uptoBulkEntries entries + 1
  | .held _ => 1
def uptoBulkAll {H : Type} : List (DataW H) → Nat
  | [] => 0
  | d :: r => uptoBulk d + uptoBulkAll r
def uptoBulkEntries {H : Type} : List (Lit × DataW H) → Nat
  | [] => 0
  | x :: r => uptoBulkEntry x + uptoBulkEntries r
def uptoBulkEntry {H : Type} : Lit × DataW H → Nat
  | (.string bytes, d) => bytes.length + uptoBulk d + 1
  | (_, d) => uptoBulk d + 1
 end
def uptoSmall : (H : Type) → List (DataW H) → Bool := fun _ ds => decide (uptoBulkAll ds ≤ 1048576)
def OpenSpec.upto (s : _root_.Go.ChangeSpec) : _root_.Go.OpenSpec := { _root_.Go.OpenSpec.ofChange s with cond := some uptoSmall }

/-- 'laws.FnExactRefutes', WHERE WHAT IT READS IS OF BULK AT MOST 1048576: true; the input reads as it did. -/
def fnExactRefutesUptoRow : OpenClaim := { program := "ytepmaclbeggpfaagreat", sum := "f78d9d6dd6323441407266e9b0769cb359abdc01e855da588fabd66159b93115", func := "loop.example/constraintsolver/laws.FnExactRefutes", spec := "fnExactRefutes", unfollowed := true, recurses := true, apart := false, narrowed := true }
def FnExactRefutesUptoSaid : Prop := fnExactRefutesUptoRow.holds Tryz.pinned (OpenSpec.upto fnExactRefutesSpec)

/-- 'laws.FnExactIsNogood', WHERE WHAT IT READS IS OF BULK AT MOST 1048576: true; the input reads as it did. -/
def fnExactIsNogoodUptoRow : OpenClaim := { program := "ytepmaclbeggpfaagreat", sum := "f78d9d6dd6323441407266e9b0769cb359abdc01e855da588fabd66159b93115", func := "loop.example/constraintsolver/laws.FnExactIsNogood", spec := "fnExactIsNogood", unfollowed := true, recurses := true, apart := false, narrowed := true }
def FnExactIsNogoodUptoSaid : Prop := fnExactIsNogoodUptoRow.holds Tryz.pinned (OpenSpec.upto fnExactIsNogoodSpec)

/-- 'laws.FnExactPropagateClauses', WHERE WHAT IT READS IS OF BULK AT MOST 1048576: true; the input reads as it did. -/
def fnExactPropagateClausesUptoRow : OpenClaim := { program := "ytepmaclbeggpfaagreat", sum := "f78d9d6dd6323441407266e9b0769cb359abdc01e855da588fabd66159b93115", func := "loop.example/constraintsolver/laws.FnExactPropagateClauses", spec := "fnExactPropagateClauses", unfollowed := true, recurses := true, apart := false, narrowed := true }
def FnExactPropagateClausesUptoSaid : Prop := fnExactPropagateClausesUptoRow.holds Tryz.pinned (OpenSpec.upto fnExactPropagateClausesSpec)

/-- 'laws.FnExactMinimalNogood', WHERE WHAT IT READS IS OF BULK AT MOST 1048576: true; the input reads as it did. -/
def fnExactMinimalNogoodUptoRow : OpenClaim := { program := "ytepmaclbeggpfaagreat", sum := "f78d9d6dd6323441407266e9b0769cb359abdc01e855da588fabd66159b93115", func := "loop.example/constraintsolver/laws.FnExactMinimalNogood", spec := "fnExactMinimalNogood", unfollowed := true, recurses := true, apart := false, narrowed := true }
def FnExactMinimalNogoodUptoSaid : Prop := fnExactMinimalNogoodUptoRow.holds Tryz.pinned (OpenSpec.upto fnExactMinimalNogoodSpec)

end Rows
end Go.Proofs.YtepmaclbeggpfaaGreat
