/-
  No cell of these rows narrows 'for every input' (looked for: loops, veiled, ifaces, maps, wideKeys, modest, calm, conditions, laid).
  DERIVED. THE GIVEN ROWS OF THIS SEAT. 2 by the template 'for every input the law returns true; each argument reads behind the call as it read before'; 0 by the template 'total and deterministic' (their statements: YtgeflejmdlipmaaTotals.lean).
  GIVEN WITH THE SEED: the statements are not yours to turn. If you find one false, say at which input.
  Laid BY PROGRAM, IN A SANDBOX (cutbox-rows.mjs): the forced cells as the released guide's own fill.sh prints them over the translation a1789c6ac2a6cf12… (all of the seat's roots in one cut). By AI agents, Wed Nov 11 2026. No macro, syntax, notation, axiom, sorry.
-/
import Derived.Test.YtgeflejmdlipmaaChecked
import GoSem.Claim
import GoSem.ClaimJoined
import GoSem.ClaimMapViews
import Derived.JoinedTies
import Derived.KernelRfl
namespace Go.Proofs.Ytgeflejmdlipmaa
/- THE CELL 'sum', in the pinned program and in every row, IS THE sha256 OF THE DUMP (.gsa) THAT YtgeflejmdlipmaaProg.lean LOADS. Nothing in Lean hashes anything: it is a label: what it is worth is what the hold of that sum in a sandbox is worth. -/
noncomputable def Try.pinned : Pinned := { name := "ytgeflejmdlipmaa", sum := "a1789c6ac2a6cf12499dd0e7cb14c10f90cbabf0de8715ee27b2c7c5f2d38b27", checked := Try.checked }
namespace Rows
def none {H : Type} : Left H := { results := [], args := [] }

/-- 'laws.FnProbeFixed': WHATEVER THE INPUT: true; the input reads as it did. -/
def fnProbeFixedSpec : ChangeSpec := { name := "fnProbeFixed", fn := fun _ => fun
  | [d] => { results := [.lit (.bool true)], args := [d] }
  | _ => none }
def fnProbeFixedRow : OpenClaim := { program := "ytgeflejmdlipmaa", sum := "a1789c6ac2a6cf12499dd0e7cb14c10f90cbabf0de8715ee27b2c7c5f2d38b27", func := "loop.example/constraintsolver/laws.FnProbeFixed", spec := "fnProbeFixed", unfollowed := true, recurses := true, apart := false }
def FnProbeFixedSaid : Prop := fnProbeFixedRow.holds Try.pinned (OpenSpec.ofChange fnProbeFixedSpec)

/-- ITS FALSE NEIGHBOUR: 'it returns false'. Refute it at one input. -/
def fnProbeFixedWrong : ChangeSpec := { name := "fnProbeFixed", fn := fun _ => fun
  | [d] => { results := [.lit (.bool false)], args := [d] }
  | _ => none }
def FnProbeFixedWrongFalsely : Prop := fnProbeFixedRow.holds Try.pinned (OpenSpec.ofChange fnProbeFixedWrong)

/-- 'laws.FnSingleton': WHATEVER THE INPUT: true; the input reads as it did. -/
def fnSingletonSpec : ChangeSpec := { name := "fnSingleton", fn := fun _ => fun
  | [d] => { results := [.lit (.bool true)], args := [d] }
  | _ => none }
def fnSingletonRow : OpenClaim := { program := "ytgeflejmdlipmaa", sum := "a1789c6ac2a6cf12499dd0e7cb14c10f90cbabf0de8715ee27b2c7c5f2d38b27", func := "loop.example/constraintsolver/laws.FnSingleton", spec := "fnSingleton", unfollowed := true, recurses := true, apart := false }
def FnSingletonSaid : Prop := fnSingletonRow.holds Try.pinned (OpenSpec.ofChange fnSingletonSpec)

/-- ITS FALSE NEIGHBOUR: 'it returns false'. Refute it at one input. -/
def fnSingletonWrong : ChangeSpec := { name := "fnSingleton", fn := fun _ => fun
  | [d] => { results := [.lit (.bool false)], args := [d] }
  | _ => none }
def FnSingletonWrongFalsely : Prop := fnSingletonRow.holds Try.pinned (OpenSpec.ofChange fnSingletonWrong)

/- THE SECOND FORM. 'bulk': how many values and letters a reading holds, each counted each time it is reached (what is shared counts as often as it is met; a slice's spare places count too). A statement '..UptoSaid' is the law's where the arguments, and the package variables that the reading takes, are together of bulk at most 1048576: NARROWER than '..Said'. Prove '..Said' where nothing that the law and all that it calls make is longer than what came in: it says more and counts as full. Else prove '..UptoSaid'. A law counts once. -/
mutual
def uptoBulk {H : Type} : DataW H → Nat
  | .lit (.string bytes) => bytes.length + 1
  | .lit _ => 1
  | .nil => 1
  | .ptr d => uptoBulk d + 1
  | .slice elems spare => uptoBulkAll elems + uptoBulkAll spare + 1
  | .agg parts => uptoBulkAll parts + 1
  | .iface _ d => uptoBulk d + 1
  | .map entries => uptoBulkEntries entries + 1
  | .held _ => 1
def uptoBulkAll {H : Type} : List (DataW H) → Nat
  | [] => 0
  | d :: r => uptoBulk d + uptoBulkAll r
def uptoBulkEntries {H : Type} : List (Lit × DataW H) → Nat
  | [] => 0
  | x :: r => uptoBulkEntry x + uptoBulkEntries r
def uptoBulkEntry {H : Type} : Lit × DataW H → Nat
  | (.string bytes, d) => bytes.length + uptoBulk d + 1
  | (_, d) => uptoBulk d + 1
 end
def uptoSmall : (H : Type) → List (DataW H) → Bool := fun _ ds => decide (uptoBulkAll ds ≤ 1048576)
def OpenSpec.upto (s : _root_.Go.ChangeSpec) : _root_.Go.OpenSpec := { _root_.Go.OpenSpec.ofChange s with cond := some uptoSmall }

/-- 'laws.FnProbeFixed', WHERE WHAT IT READS IS OF BULK AT MOST 1048576: true; the input reads as it did. -/
def fnProbeFixedUptoRow : OpenClaim := { program := "ytgeflejmdlipmaa", sum := "a1789c6ac2a6cf12499dd0e7cb14c10f90cbabf0de8715ee27b2c7c5f2d38b27", func := "loop.example/constraintsolver/laws.FnProbeFixed", spec := "fnProbeFixed", unfollowed := true, recurses := true, apart := false, narrowed := true }
def FnProbeFixedUptoSaid : Prop := fnProbeFixedUptoRow.holds Try.pinned (OpenSpec.upto fnProbeFixedSpec)

/-- 'laws.FnSingleton', WHERE WHAT IT READS IS OF BULK AT MOST 1048576: true; the input reads as it did. -/
def fnSingletonUptoRow : OpenClaim := { program := "ytgeflejmdlipmaa", sum := "a1789c6ac2a6cf12499dd0e7cb14c10f90cbabf0de8715ee27b2c7c5f2d38b27", func := "loop.example/constraintsolver/laws.FnSingleton", spec := "fnSingleton", unfollowed := true, recurses := true, apart := false, narrowed := true }
def FnSingletonUptoSaid : Prop := fnSingletonUptoRow.holds Try.pinned (OpenSpec.upto fnSingletonSpec)

end Rows
end Go.Proofs.Ytgeflejmdlipmaa
