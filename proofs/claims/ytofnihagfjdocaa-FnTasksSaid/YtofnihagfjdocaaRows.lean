/-
  No cell of these rows narrows 'for every input' (looked for: loops, veiled, ifaces, maps, wideKeys, modest, calm, conditions, laid).
  DERIVED. THE GIVEN ROWS OF THIS SEAT. 6 by the template 'for every input the law returns true; each argument reads behind the call as it read before'; 0 by the template 'total and deterministic' (their statements: YtofnihagfjdocaaTotals.lean).
  GIVEN WITH THE SEED: the statements are not yours to turn. If you find one false, say at which input.
  Laid BY PROGRAM, IN A SANDBOX (cutbox-rows.mjs): the forced cells as the released guide's own fill.sh prints them over the translation f0e81df0ded52d07… (all of the seat's roots in one cut). By AI agents, Wed Nov 11 2026. No macro, syntax, notation, axiom, sorry.
-/
import Derived.Test.YtofnihagfjdocaaChecked
import GoSem.Claim
import GoSem.ClaimJoined
import GoSem.ClaimMapViews
import Derived.JoinedTies
import Derived.KernelRfl
namespace Go.Proofs.Ytofnihagfjdocaa
/- THE CELL 'sum', in the pinned program and in every row, IS THE sha256 OF THE DUMP (.gsa) THAT YtofnihagfjdocaaProg.lean LOADS. Nothing in Lean hashes anything: it is a label: what it is worth is what the hold of that sum in a sandbox is worth. -/
noncomputable def Try.pinned : Pinned := { name := "ytofnihagfjdocaa", sum := "f0e81df0ded52d07c59aaebee844bf1520de0b204a37ddf44ebac380e9eb5515", checked := Try.checked }
namespace Rows
def none {H : Type} : Left H := { results := [], args := [] }

/-- 'laws.FnExactSchedule': WHATEVER THE INPUT: true; the input reads as it did. -/
def fnExactScheduleSpec : ChangeSpec := { name := "fnExactSchedule", fn := fun _ => fun
  | [d1, d2] => { results := [.lit (.bool true)], args := [d1, d2] }
  | _ => none }
def fnExactScheduleRow : OpenClaim := { program := "ytofnihagfjdocaa", sum := "f0e81df0ded52d07c59aaebee844bf1520de0b204a37ddf44ebac380e9eb5515", func := "loop.example/constraintsolver/laws.FnExactSchedule", spec := "fnExactSchedule", unfollowed := true, recurses := true, apart := false }
def FnExactScheduleSaid : Prop := fnExactScheduleRow.holds Try.pinned (OpenSpec.ofChange fnExactScheduleSpec)

/-- ITS FALSE NEIGHBOUR: 'it returns false'. Refute it at one input. -/
def fnExactScheduleWrong : ChangeSpec := { name := "fnExactSchedule", fn := fun _ => fun
  | [d1, d2] => { results := [.lit (.bool false)], args := [d1, d2] }
  | _ => none }
def FnExactScheduleWrongFalsely : Prop := fnExactScheduleRow.holds Try.pinned (OpenSpec.ofChange fnExactScheduleWrong)

/-- 'laws.FnTasks': WHATEVER THE INPUT: true; the input reads as it did. -/
def fnTasksSpec : ChangeSpec := { name := "fnTasks", fn := fun _ => fun
  | [d] => { results := [.lit (.bool true)], args := [d] }
  | _ => none }
def fnTasksRow : OpenClaim := { program := "ytofnihagfjdocaa", sum := "f0e81df0ded52d07c59aaebee844bf1520de0b204a37ddf44ebac380e9eb5515", func := "loop.example/constraintsolver/laws.FnTasks", spec := "fnTasks", unfollowed := true, recurses := true, apart := false }
def FnTasksSaid : Prop := fnTasksRow.holds Try.pinned (OpenSpec.ofChange fnTasksSpec)

/-- ITS FALSE NEIGHBOUR: 'it returns false'. Refute it at one input. -/
def fnTasksWrong : ChangeSpec := { name := "fnTasks", fn := fun _ => fun
  | [d] => { results := [.lit (.bool false)], args := [d] }
  | _ => none }
def FnTasksWrongFalsely : Prop := fnTasksRow.holds Try.pinned (OpenSpec.ofChange fnTasksWrong)

/-- 'laws.FnMakespan': WHATEVER THE INPUT: true; the input reads as it did. -/
def fnMakespanSpec : ChangeSpec := { name := "fnMakespan", fn := fun _ => fun
  | [d] => { results := [.lit (.bool true)], args := [d] }
  | _ => none }
def fnMakespanRow : OpenClaim := { program := "ytofnihagfjdocaa", sum := "f0e81df0ded52d07c59aaebee844bf1520de0b204a37ddf44ebac380e9eb5515", func := "loop.example/constraintsolver/laws.FnMakespan", spec := "fnMakespan", unfollowed := true, recurses := true, apart := false }
def FnMakespanSaid : Prop := fnMakespanRow.holds Try.pinned (OpenSpec.ofChange fnMakespanSpec)

/-- ITS FALSE NEIGHBOUR: 'it returns false'. Refute it at one input. -/
def fnMakespanWrong : ChangeSpec := { name := "fnMakespan", fn := fun _ => fun
  | [d] => { results := [.lit (.bool false)], args := [d] }
  | _ => none }
def FnMakespanWrongFalsely : Prop := fnMakespanRow.holds Try.pinned (OpenSpec.ofChange fnMakespanWrong)

/-- 'laws.FnRequiredEnergy': WHATEVER THE INPUT: true; the input reads as it did. -/
def fnRequiredEnergySpec : ChangeSpec := { name := "fnRequiredEnergy", fn := fun _ => fun
  | [d1, d2] => { results := [.lit (.bool true)], args := [d1, d2] }
  | _ => none }
def fnRequiredEnergyRow : OpenClaim := { program := "ytofnihagfjdocaa", sum := "f0e81df0ded52d07c59aaebee844bf1520de0b204a37ddf44ebac380e9eb5515", func := "loop.example/constraintsolver/laws.FnRequiredEnergy", spec := "fnRequiredEnergy", unfollowed := true, recurses := true, apart := false }
def FnRequiredEnergySaid : Prop := fnRequiredEnergyRow.holds Try.pinned (OpenSpec.ofChange fnRequiredEnergySpec)

/-- ITS FALSE NEIGHBOUR: 'it returns false'. Refute it at one input. -/
def fnRequiredEnergyWrong : ChangeSpec := { name := "fnRequiredEnergy", fn := fun _ => fun
  | [d1, d2] => { results := [.lit (.bool false)], args := [d1, d2] }
  | _ => none }
def FnRequiredEnergyWrongFalsely : Prop := fnRequiredEnergyRow.holds Try.pinned (OpenSpec.ofChange fnRequiredEnergyWrong)

/-- 'laws.FnOverload': WHATEVER THE INPUT: true; the input reads as it did. -/
def fnOverloadSpec : ChangeSpec := { name := "fnOverload", fn := fun _ => fun
  | [d] => { results := [.lit (.bool true)], args := [d] }
  | _ => none }
def fnOverloadRow : OpenClaim := { program := "ytofnihagfjdocaa", sum := "f0e81df0ded52d07c59aaebee844bf1520de0b204a37ddf44ebac380e9eb5515", func := "loop.example/constraintsolver/laws.FnOverload", spec := "fnOverload", unfollowed := true, recurses := true, apart := false }
def FnOverloadSaid : Prop := fnOverloadRow.holds Try.pinned (OpenSpec.ofChange fnOverloadSpec)

/-- ITS FALSE NEIGHBOUR: 'it returns false'. Refute it at one input. -/
def fnOverloadWrong : ChangeSpec := { name := "fnOverload", fn := fun _ => fun
  | [d] => { results := [.lit (.bool false)], args := [d] }
  | _ => none }
def FnOverloadWrongFalsely : Prop := fnOverloadRow.holds Try.pinned (OpenSpec.ofChange fnOverloadWrong)

/-- 'laws.FnScheduleMore': WHATEVER THE INPUT: true; the input reads as it did. -/
def fnScheduleMoreSpec : ChangeSpec := { name := "fnScheduleMore", fn := fun _ => fun
  | [d] => { results := [.lit (.bool true)], args := [d] }
  | _ => none }
def fnScheduleMoreRow : OpenClaim := { program := "ytofnihagfjdocaa", sum := "f0e81df0ded52d07c59aaebee844bf1520de0b204a37ddf44ebac380e9eb5515", func := "loop.example/constraintsolver/laws.FnScheduleMore", spec := "fnScheduleMore", unfollowed := true, recurses := true, apart := false }
def FnScheduleMoreSaid : Prop := fnScheduleMoreRow.holds Try.pinned (OpenSpec.ofChange fnScheduleMoreSpec)

/-- ITS FALSE NEIGHBOUR: 'it returns false'. Refute it at one input. -/
def fnScheduleMoreWrong : ChangeSpec := { name := "fnScheduleMore", fn := fun _ => fun
  | [d] => { results := [.lit (.bool false)], args := [d] }
  | _ => none }
def FnScheduleMoreWrongFalsely : Prop := fnScheduleMoreRow.holds Try.pinned (OpenSpec.ofChange fnScheduleMoreWrong)

/- THE SECOND FORM. 'bulk': how many values and letters a reading holds, each counted each time it is reached (what is shared counts as often as it is met; a slice's spare places count too). A statement '..UptoSaid' is the law's where the arguments, and the package variables that the reading takes, are together of bulk at most 1048576: NARROWER than '..Said'. Prove '..Said' where nothing that the law and all that it calls make is longer than what came in: it says more and counts as full. Else prove '..UptoSaid'. A law counts once. -/
mutual
def uptoBulk {H : Type} : DataW H → Nat
  | .lit (.string bytes) => bytes.length + 1
  | .lit _ => 1
  | .nil => 1
  | .ptr d => uptoBulk d + 1
  | .slice elems spare => uptoBulkAll elems + uptoBulkAll spare + 1
  | .agg parts => uptoBulkAll parts + 1
  | .iface _ d => uptoBulk d + 1
  | .map entries => uptoBulkEntries entries + 1
  | .held _ => 1
def uptoBulkAll {H : Type} : List (DataW H) → Nat
  | [] => 0
  | d :: r => uptoBulk d + uptoBulkAll r
def uptoBulkEntries {H : Type} : List (Lit × DataW H) → Nat
  | [] => 0
  | x :: r => uptoBulkEntry x + uptoBulkEntries r
def uptoBulkEntry {H : Type} : Lit × DataW H → Nat
  | (.string bytes, d) => bytes.length + uptoBulk d + 1
  | (_, d) => uptoBulk d + 1
 end
def uptoSmall : (H : Type) → List (DataW H) → Bool := fun _ ds => decide (uptoBulkAll ds ≤ 1048576)
def OpenSpec.upto (s : _root_.Go.ChangeSpec) : _root_.Go.OpenSpec := { _root_.Go.OpenSpec.ofChange s with cond := some uptoSmall }

/-- 'laws.FnExactSchedule', WHERE WHAT IT READS IS OF BULK AT MOST 1048576: true; the input reads as it did. -/
def fnExactScheduleUptoRow : OpenClaim := { program := "ytofnihagfjdocaa", sum := "f0e81df0ded52d07c59aaebee844bf1520de0b204a37ddf44ebac380e9eb5515", func := "loop.example/constraintsolver/laws.FnExactSchedule", spec := "fnExactSchedule", unfollowed := true, recurses := true, apart := false, narrowed := true }
def FnExactScheduleUptoSaid : Prop := fnExactScheduleUptoRow.holds Try.pinned (OpenSpec.upto fnExactScheduleSpec)

/-- 'laws.FnTasks', WHERE WHAT IT READS IS OF BULK AT MOST 1048576: true; the input reads as it did. -/
def fnTasksUptoRow : OpenClaim := { program := "ytofnihagfjdocaa", sum := "f0e81df0ded52d07c59aaebee844bf1520de0b204a37ddf44ebac380e9eb5515", func := "loop.example/constraintsolver/laws.FnTasks", spec := "fnTasks", unfollowed := true, recurses := true, apart := false, narrowed := true }
def FnTasksUptoSaid : Prop := fnTasksUptoRow.holds Try.pinned (OpenSpec.upto fnTasksSpec)

/-- 'laws.FnMakespan', WHERE WHAT IT READS IS OF BULK AT MOST 1048576: true; the input reads as it did. -/
def fnMakespanUptoRow : OpenClaim := { program := "ytofnihagfjdocaa", sum := "f0e81df0ded52d07c59aaebee844bf1520de0b204a37ddf44ebac380e9eb5515", func := "loop.example/constraintsolver/laws.FnMakespan", spec := "fnMakespan", unfollowed := true, recurses := true, apart := false, narrowed := true }
def FnMakespanUptoSaid : Prop := fnMakespanUptoRow.holds Try.pinned (OpenSpec.upto fnMakespanSpec)

/-- 'laws.FnRequiredEnergy', WHERE WHAT IT READS IS OF BULK AT MOST 1048576: true; the input reads as it did. -/
def fnRequiredEnergyUptoRow : OpenClaim := { program := "ytofnihagfjdocaa", sum := "f0e81df0ded52d07c59aaebee844bf1520de0b204a37ddf44ebac380e9eb5515", func := "loop.example/constraintsolver/laws.FnRequiredEnergy", spec := "fnRequiredEnergy", unfollowed := true, recurses := true, apart := false, narrowed := true }
def FnRequiredEnergyUptoSaid : Prop := fnRequiredEnergyUptoRow.holds Try.pinned (OpenSpec.upto fnRequiredEnergySpec)

/-- 'laws.FnOverload', WHERE WHAT IT READS IS OF BULK AT MOST 1048576: true; the input reads as it did. -/
def fnOverloadUptoRow : OpenClaim := { program := "ytofnihagfjdocaa", sum := "f0e81df0ded52d07c59aaebee844bf1520de0b204a37ddf44ebac380e9eb5515", func := "loop.example/constraintsolver/laws.FnOverload", spec := "fnOverload", unfollowed := true, recurses := true, apart := false, narrowed := true }
def FnOverloadUptoSaid : Prop := fnOverloadUptoRow.holds Try.pinned (OpenSpec.upto fnOverloadSpec)

/-- 'laws.FnScheduleMore', WHERE WHAT IT READS IS OF BULK AT MOST 1048576: true; the input reads as it did. -/
def fnScheduleMoreUptoRow : OpenClaim := { program := "ytofnihagfjdocaa", sum := "f0e81df0ded52d07c59aaebee844bf1520de0b204a37ddf44ebac380e9eb5515", func := "loop.example/constraintsolver/laws.FnScheduleMore", spec := "fnScheduleMore", unfollowed := true, recurses := true, apart := false, narrowed := true }
def FnScheduleMoreUptoSaid : Prop := fnScheduleMoreUptoRow.holds Try.pinned (OpenSpec.upto fnScheduleMoreSpec)

end Rows
end Go.Proofs.Ytofnihagfjdocaa
