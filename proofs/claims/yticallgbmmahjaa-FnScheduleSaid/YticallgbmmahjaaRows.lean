/-
  No cell of these rows narrows 'for every input' (looked for: loops, veiled, ifaces, maps, wideKeys, modest, calm, conditions, laid).
  DERIVED. THE GIVEN ROWS OF THIS SEAT. 2 by the template 'for every input the law returns true; each argument reads behind the call as it read before'; 0 by the template 'total and deterministic' (their statements: YticallgbmmahjaaTotals.lean).
  GIVEN WITH THE SEED: the statements are not yours to turn. If you find one false, say at which input.
  Laid BY PROGRAM, IN A SANDBOX (cutbox-rows.mjs): the forced cells as the released guide's own fill.sh prints them over the translation 71ccad886e139922… (all of the seat's roots in one cut). By AI agents, Wed Nov 11 2026. No macro, syntax, notation, axiom, sorry.
-/
import Derived.Test.YticallgbmmahjaaChecked
import GoSem.Claim
import GoSem.ClaimJoined
import GoSem.ClaimMapViews
import Derived.JoinedTies
import Derived.KernelRfl
namespace Go.Proofs.Yticallgbmmahjaa
/- THE CELL 'sum', in the pinned program and in every row, IS THE sha256 OF THE DUMP (.gsa) THAT YticallgbmmahjaaProg.lean LOADS. Nothing in Lean hashes anything: it is a label: what it is worth is what the hold of that sum in a sandbox is worth. -/
noncomputable def Try.pinned : Pinned := { name := "yticallgbmmahjaa", sum := "71ccad886e1399228ac746ba2363c4de69e4c9ff5af98da30910f2639cb7a0f7", checked := Try.checked }
namespace Rows
def none {H : Type} : Left H := { results := [], args := [] }

/-- 'laws.FnUsage': WHATEVER THE INPUT: true; the input reads as it did. -/
def fnUsageSpec : ChangeSpec := { name := "fnUsage", fn := fun _ => fun
  | [d] => { results := [.lit (.bool true)], args := [d] }
  | _ => none }
def fnUsageRow : OpenClaim := { program := "yticallgbmmahjaa", sum := "71ccad886e1399228ac746ba2363c4de69e4c9ff5af98da30910f2639cb7a0f7", func := "loop.example/constraintsolver/laws.FnUsage", spec := "fnUsage", unfollowed := true, recurses := true, apart := false }
def FnUsageSaid : Prop := fnUsageRow.holds Try.pinned (OpenSpec.ofChange fnUsageSpec)

/-- ITS FALSE NEIGHBOUR: 'it returns false'. Refute it at one input. -/
def fnUsageWrong : ChangeSpec := { name := "fnUsage", fn := fun _ => fun
  | [d] => { results := [.lit (.bool false)], args := [d] }
  | _ => none }
def FnUsageWrongFalsely : Prop := fnUsageRow.holds Try.pinned (OpenSpec.ofChange fnUsageWrong)

/-- 'laws.FnSchedule': WHATEVER THE INPUT: true; the input reads as it did. -/
def fnScheduleSpec : ChangeSpec := { name := "fnSchedule", fn := fun _ => fun
  | [d] => { results := [.lit (.bool true)], args := [d] }
  | _ => none }
def fnScheduleRow : OpenClaim := { program := "yticallgbmmahjaa", sum := "71ccad886e1399228ac746ba2363c4de69e4c9ff5af98da30910f2639cb7a0f7", func := "loop.example/constraintsolver/laws.FnSchedule", spec := "fnSchedule", unfollowed := true, recurses := true, apart := false }
def FnScheduleSaid : Prop := fnScheduleRow.holds Try.pinned (OpenSpec.ofChange fnScheduleSpec)

/-- ITS FALSE NEIGHBOUR: 'it returns false'. Refute it at one input. -/
def fnScheduleWrong : ChangeSpec := { name := "fnSchedule", fn := fun _ => fun
  | [d] => { results := [.lit (.bool false)], args := [d] }
  | _ => none }
def FnScheduleWrongFalsely : Prop := fnScheduleRow.holds Try.pinned (OpenSpec.ofChange fnScheduleWrong)

/- THE SECOND FORM. 'bulk': how many values and letters a reading holds, each counted each time it is reached (what is shared counts as often as it is met; a slice's spare places count too). A statement '..UptoSaid' is the law's where the arguments, and the package variables that the reading takes, are together of bulk at most 1048576: NARROWER than '..Said'. Prove '..Said' where nothing that the law and all that it calls make is longer than what came in: it says more and counts as full. Else prove '..UptoSaid'. A law counts once. -/
mutual
def uptoBulk {H : Type} : DataW H → Nat
  | .lit (.string bytes) => bytes.length + 1
  | .lit _ => 1
  | .nil => 1
  | .ptr d => uptoBulk d + 1
  | .slice elems spare => uptoBulkAll elems + uptoBulkAll spare + 1
  | .agg parts => uptoBulkAll parts + 1
  | .iface _ d => uptoBulk d + 1
  | .map entries => uptoBulkEntries entries + 1
  | .held _ => 1
def uptoBulkAll {H : Type} : List (DataW H) → Nat
  | [] => 0
  | d :: r => uptoBulk d + uptoBulkAll r
def uptoBulkEntries {H : Type} : List (Lit × DataW H) → Nat
  | [] => 0
  | x :: r => uptoBulkEntry x + uptoBulkEntries r
def uptoBulkEntry {H : Type} : Lit × DataW H → Nat
  | (.string bytes, d) => bytes.length + uptoBulk d + 1
  | (_, d) => uptoBulk d + 1
 end
def uptoSmall : (H : Type) → List (DataW H) → Bool := fun _ ds => decide (uptoBulkAll ds ≤ 1048576)
def OpenSpec.upto (s : _root_.Go.ChangeSpec) : _root_.Go.OpenSpec := { _root_.Go.OpenSpec.ofChange s with cond := some uptoSmall }

/-- 'laws.FnUsage', WHERE WHAT IT READS IS OF BULK AT MOST 1048576: true; the input reads as it did. -/
def fnUsageUptoRow : OpenClaim := { program := "yticallgbmmahjaa", sum := "71ccad886e1399228ac746ba2363c4de69e4c9ff5af98da30910f2639cb7a0f7", func := "loop.example/constraintsolver/laws.FnUsage", spec := "fnUsage", unfollowed := true, recurses := true, apart := false, narrowed := true }
def FnUsageUptoSaid : Prop := fnUsageUptoRow.holds Try.pinned (OpenSpec.upto fnUsageSpec)

/-- 'laws.FnSchedule', WHERE WHAT IT READS IS OF BULK AT MOST 1048576: true; the input reads as it did. -/
def fnScheduleUptoRow : OpenClaim := { program := "yticallgbmmahjaa", sum := "71ccad886e1399228ac746ba2363c4de69e4c9ff5af98da30910f2639cb7a0f7", func := "loop.example/constraintsolver/laws.FnSchedule", spec := "fnSchedule", unfollowed := true, recurses := true, apart := false, narrowed := true }
def FnScheduleUptoSaid : Prop := fnScheduleUptoRow.holds Try.pinned (OpenSpec.upto fnScheduleSpec)

end Rows
end Go.Proofs.Yticallgbmmahjaa
