/-
  No cell of these rows narrows 'for every input' (looked for: loops, veiled, ifaces, maps, wideKeys, modest, calm, conditions, laid).
  DERIVED. THE GIVEN ROWS OF THIS SEAT. 5 by the template 'for every input the law returns true; each argument reads behind the call as it read before'; 0 by the template 'total and deterministic' (their statements: YtljnclhjmdonjaaTotals.lean).
  GIVEN WITH THE SEED: the statements are not yours to turn. If you find one false, say at which input.
  Laid BY PROGRAM, IN A SANDBOX (cutbox-rows.mjs): the forced cells as the released guide's own fill.sh prints them over the translation 811e158acca910ce… (all of the seat's roots in one cut). By AI agents, Wed Nov 11 2026. No macro, syntax, notation, axiom, sorry.
-/
import Derived.Test.YtljnclhjmdonjaaChecked
import GoSem.Claim
import GoSem.ClaimJoined
import GoSem.ClaimMapViews
import Derived.JoinedTies
import Derived.KernelRfl
namespace Go.Proofs.Ytljnclhjmdonjaa
/- THE CELL 'sum', in the pinned program and in every row, IS THE sha256 OF THE DUMP (.gsa) THAT YtljnclhjmdonjaaProg.lean LOADS. Nothing in Lean hashes anything: it is a label: what it is worth is what the hold of that sum in a sandbox is worth. -/
noncomputable def Try.pinned : Pinned := { name := "ytljnclhjmdonjaa", sum := "811e158acca910ce7f47652922fe644ce99f9bb1a4a0ce6feee2cb7c13e70615", checked := Try.checked }
namespace Rows
def none {H : Type} : Left H := { results := [], args := [] }

/-- 'laws.FnExactValidTasks': WHATEVER THE INPUT: true; the input reads as it did. -/
def fnExactValidTasksSpec : ChangeSpec := { name := "fnExactValidTasks", fn := fun _ => fun
  | [d1, d2] => { results := [.lit (.bool true)], args := [d1, d2] }
  | _ => none }
def fnExactValidTasksRow : OpenClaim := { program := "ytljnclhjmdonjaa", sum := "811e158acca910ce7f47652922fe644ce99f9bb1a4a0ce6feee2cb7c13e70615", func := "loop.example/constraintsolver/laws.FnExactValidTasks", spec := "fnExactValidTasks", unfollowed := true, recurses := true, apart := false }
def FnExactValidTasksSaid : Prop := fnExactValidTasksRow.holds Try.pinned (OpenSpec.ofChange fnExactValidTasksSpec)

/-- ITS FALSE NEIGHBOUR: 'it returns false'. Refute it at one input. -/
def fnExactValidTasksWrong : ChangeSpec := { name := "fnExactValidTasks", fn := fun _ => fun
  | [d1, d2] => { results := [.lit (.bool false)], args := [d1, d2] }
  | _ => none }
def FnExactValidTasksWrongFalsely : Prop := fnExactValidTasksRow.holds Try.pinned (OpenSpec.ofChange fnExactValidTasksWrong)

/-- 'laws.FnExactMakespan': WHATEVER THE INPUT: true; the input reads as it did. -/
def fnExactMakespanSpec : ChangeSpec := { name := "fnExactMakespan", fn := fun _ => fun
  | [d1, d2] => { results := [.lit (.bool true)], args := [d1, d2] }
  | _ => none }
def fnExactMakespanRow : OpenClaim := { program := "ytljnclhjmdonjaa", sum := "811e158acca910ce7f47652922fe644ce99f9bb1a4a0ce6feee2cb7c13e70615", func := "loop.example/constraintsolver/laws.FnExactMakespan", spec := "fnExactMakespan", unfollowed := true, recurses := true, apart := false }
def FnExactMakespanSaid : Prop := fnExactMakespanRow.holds Try.pinned (OpenSpec.ofChange fnExactMakespanSpec)

/-- ITS FALSE NEIGHBOUR: 'it returns false'. Refute it at one input. -/
def fnExactMakespanWrong : ChangeSpec := { name := "fnExactMakespan", fn := fun _ => fun
  | [d1, d2] => { results := [.lit (.bool false)], args := [d1, d2] }
  | _ => none }
def FnExactMakespanWrongFalsely : Prop := fnExactMakespanRow.holds Try.pinned (OpenSpec.ofChange fnExactMakespanWrong)

/-- 'laws.FnExactUsage': WHATEVER THE INPUT: true; the input reads as it did. -/
def fnExactUsageSpec : ChangeSpec := { name := "fnExactUsage", fn := fun _ => fun
  | [d1, d2] => { results := [.lit (.bool true)], args := [d1, d2] }
  | _ => none }
def fnExactUsageRow : OpenClaim := { program := "ytljnclhjmdonjaa", sum := "811e158acca910ce7f47652922fe644ce99f9bb1a4a0ce6feee2cb7c13e70615", func := "loop.example/constraintsolver/laws.FnExactUsage", spec := "fnExactUsage", unfollowed := true, recurses := true, apart := false }
def FnExactUsageSaid : Prop := fnExactUsageRow.holds Try.pinned (OpenSpec.ofChange fnExactUsageSpec)

/-- ITS FALSE NEIGHBOUR: 'it returns false'. Refute it at one input. -/
def fnExactUsageWrong : ChangeSpec := { name := "fnExactUsage", fn := fun _ => fun
  | [d1, d2] => { results := [.lit (.bool false)], args := [d1, d2] }
  | _ => none }
def FnExactUsageWrongFalsely : Prop := fnExactUsageRow.holds Try.pinned (OpenSpec.ofChange fnExactUsageWrong)

/-- 'laws.FnExactRequiredEnergy': WHATEVER THE INPUT: true; the input reads as it did. -/
def fnExactRequiredEnergySpec : ChangeSpec := { name := "fnExactRequiredEnergy", fn := fun _ => fun
  | [d1, d2, d3] => { results := [.lit (.bool true)], args := [d1, d2, d3] }
  | _ => none }
def fnExactRequiredEnergyRow : OpenClaim := { program := "ytljnclhjmdonjaa", sum := "811e158acca910ce7f47652922fe644ce99f9bb1a4a0ce6feee2cb7c13e70615", func := "loop.example/constraintsolver/laws.FnExactRequiredEnergy", spec := "fnExactRequiredEnergy", unfollowed := true, recurses := true, apart := false }
def FnExactRequiredEnergySaid : Prop := fnExactRequiredEnergyRow.holds Try.pinned (OpenSpec.ofChange fnExactRequiredEnergySpec)

/-- ITS FALSE NEIGHBOUR: 'it returns false'. Refute it at one input. -/
def fnExactRequiredEnergyWrong : ChangeSpec := { name := "fnExactRequiredEnergy", fn := fun _ => fun
  | [d1, d2, d3] => { results := [.lit (.bool false)], args := [d1, d2, d3] }
  | _ => none }
def FnExactRequiredEnergyWrongFalsely : Prop := fnExactRequiredEnergyRow.holds Try.pinned (OpenSpec.ofChange fnExactRequiredEnergyWrong)

/-- 'laws.FnExactOverload': WHATEVER THE INPUT: true; the input reads as it did. -/
def fnExactOverloadSpec : ChangeSpec := { name := "fnExactOverload", fn := fun _ => fun
  | [d1, d2] => { results := [.lit (.bool true)], args := [d1, d2] }
  | _ => none }
def fnExactOverloadRow : OpenClaim := { program := "ytljnclhjmdonjaa", sum := "811e158acca910ce7f47652922fe644ce99f9bb1a4a0ce6feee2cb7c13e70615", func := "loop.example/constraintsolver/laws.FnExactOverload", spec := "fnExactOverload", unfollowed := true, recurses := true, apart := false }
def FnExactOverloadSaid : Prop := fnExactOverloadRow.holds Try.pinned (OpenSpec.ofChange fnExactOverloadSpec)

/-- ITS FALSE NEIGHBOUR: 'it returns false'. Refute it at one input. -/
def fnExactOverloadWrong : ChangeSpec := { name := "fnExactOverload", fn := fun _ => fun
  | [d1, d2] => { results := [.lit (.bool false)], args := [d1, d2] }
  | _ => none }
def FnExactOverloadWrongFalsely : Prop := fnExactOverloadRow.holds Try.pinned (OpenSpec.ofChange fnExactOverloadWrong)

/- THE SECOND FORM. 'bulk': how many values and letters a reading holds, each counted each time it is reached (what is shared counts as often as it is met; a slice's spare places count too). A statement '..UptoSaid' is the law's where the arguments, and the package variables that the reading takes, are together of bulk at most 1048576: NARROWER than '..Said'. Prove '..Said' where nothing that the law and all that it calls make is longer than what came in: it says more and counts as full. Else prove '..UptoSaid'. A law counts once. -/
mutual
def uptoBulk {H : Type} : DataW H → Nat
  | .lit (.string bytes) => bytes.length + 1
  | .lit _ => 1
  | .nil => 1
  | .ptr d => uptoBulk d + 1
  | .slice elems spare => uptoBulkAll elems + uptoBulkAll spare + 1
  | .agg parts => uptoBulkAll parts + 1
  | .iface _ d => uptoBulk d + 1
  | .map entries => uptoBulkEntries entries + 1
  | .held _ => 1
def uptoBulkAll {H : Type} : List (DataW H) → Nat
  | [] => 0
  | d :: r => uptoBulk d + uptoBulkAll r
def uptoBulkEntries {H : Type} : List (Lit × DataW H) → Nat
  | [] => 0
  | x :: r => uptoBulkEntry x + uptoBulkEntries r
def uptoBulkEntry {H : Type} : Lit × DataW H → Nat
  | (.string bytes, d) => bytes.length + uptoBulk d + 1
  | (_, d) => uptoBulk d + 1
 end
def uptoSmall : (H : Type) → List (DataW H) → Bool := fun _ ds => decide (uptoBulkAll ds ≤ 1048576)
def OpenSpec.upto (s : _root_.Go.ChangeSpec) : _root_.Go.OpenSpec := { _root_.Go.OpenSpec.ofChange s with cond := some uptoSmall }

/-- 'laws.FnExactValidTasks', WHERE WHAT IT READS IS OF BULK AT MOST 1048576: true; the input reads as it did. -/
def fnExactValidTasksUptoRow : OpenClaim := { program := "ytljnclhjmdonjaa", sum := "811e158acca910ce7f47652922fe644ce99f9bb1a4a0ce6feee2cb7c13e70615", func := "loop.example/constraintsolver/laws.FnExactValidTasks", spec := "fnExactValidTasks", unfollowed := true, recurses := true, apart := false, narrowed := true }
def FnExactValidTasksUptoSaid : Prop := fnExactValidTasksUptoRow.holds Try.pinned (OpenSpec.upto fnExactValidTasksSpec)

/-- 'laws.FnExactMakespan', WHERE WHAT IT READS IS OF BULK AT MOST 1048576: true; the input reads as it did. -/
def fnExactMakespanUptoRow : OpenClaim := { program := "ytljnclhjmdonjaa", sum := "811e158acca910ce7f47652922fe644ce99f9bb1a4a0ce6feee2cb7c13e70615", func := "loop.example/constraintsolver/laws.FnExactMakespan", spec := "fnExactMakespan", unfollowed := true, recurses := true, apart := false, narrowed := true }
def FnExactMakespanUptoSaid : Prop := fnExactMakespanUptoRow.holds Try.pinned (OpenSpec.upto fnExactMakespanSpec)

/-- 'laws.FnExactUsage', WHERE WHAT IT READS IS OF BULK AT MOST 1048576: true; the input reads as it did. -/
def fnExactUsageUptoRow : OpenClaim := { program := "ytljnclhjmdonjaa", sum := "811e158acca910ce7f47652922fe644ce99f9bb1a4a0ce6feee2cb7c13e70615", func := "loop.example/constraintsolver/laws.FnExactUsage", spec := "fnExactUsage", unfollowed := true, recurses := true, apart := false, narrowed := true }
def FnExactUsageUptoSaid : Prop := fnExactUsageUptoRow.holds Try.pinned (OpenSpec.upto fnExactUsageSpec)

/-- 'laws.FnExactRequiredEnergy', WHERE WHAT IT READS IS OF BULK AT MOST 1048576: true; the input reads as it did. -/
def fnExactRequiredEnergyUptoRow : OpenClaim := { program := "ytljnclhjmdonjaa", sum := "811e158acca910ce7f47652922fe644ce99f9bb1a4a0ce6feee2cb7c13e70615", func := "loop.example/constraintsolver/laws.FnExactRequiredEnergy", spec := "fnExactRequiredEnergy", unfollowed := true, recurses := true, apart := false, narrowed := true }
def FnExactRequiredEnergyUptoSaid : Prop := fnExactRequiredEnergyUptoRow.holds Try.pinned (OpenSpec.upto fnExactRequiredEnergySpec)

/-- 'laws.FnExactOverload', WHERE WHAT IT READS IS OF BULK AT MOST 1048576: true; the input reads as it did. -/
def fnExactOverloadUptoRow : OpenClaim := { program := "ytljnclhjmdonjaa", sum := "811e158acca910ce7f47652922fe644ce99f9bb1a4a0ce6feee2cb7c13e70615", func := "loop.example/constraintsolver/laws.FnExactOverload", spec := "fnExactOverload", unfollowed := true, recurses := true, apart := false, narrowed := true }
def FnExactOverloadUptoSaid : Prop := fnExactOverloadUptoRow.holds Try.pinned (OpenSpec.upto fnExactOverloadSpec)

end Rows
end Go.Proofs.Ytljnclhjmdonjaa
