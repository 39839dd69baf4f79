/-
  No cell of these rows narrows 'for every input' (looked for: loops, veiled, ifaces, maps, wideKeys, modest, calm, conditions, laid).
  DERIVED. THE GIVEN ROWS OF THIS SEAT. 5 by the template 'for every input the law returns true; each argument reads behind the call as it read before'; 0 by the template 'total and deterministic' (their statements: YtchlpclgkhggeaaTotals.lean).
  GIVEN WITH THE SEED: the statements are not yours to turn. If you find one false, say at which input.
  Laid BY PROGRAM, IN A SANDBOX (cutbox-rows.mjs): the forced cells as the released guide's own fill.sh prints them over the translation 3bc95ff9eece988e… (all of the seat's roots in one cut). By AI agents, Wed Nov 11 2026. No macro, syntax, notation, axiom, sorry.
-/
import Derived.Test.YtchlpclgkhggeaaChecked
import GoSem.Claim
import GoSem.ClaimJoined
import GoSem.ClaimMapViews
import Derived.JoinedTies
import Derived.KernelRfl
namespace Go.Proofs.Ytchlpclgkhggeaa
/- THE CELL 'sum', in the pinned program and in every row, IS THE sha256 OF THE DUMP (.gsa) THAT YtchlpclgkhggeaaProg.lean LOADS. Nothing in Lean hashes anything: it is a label: what it is worth is what the hold of that sum in a sandbox is worth. -/
noncomputable def Try.pinned : Pinned := { name := "ytchlpclgkhggeaa", sum := "3bc95ff9eece988e5fd5b19fd2c9ea6a6ecfdea587085543c4fadfc10c41cedc", checked := Try.checked }
namespace Rows
def none {H : Type} : Left H := { results := [], args := [] }

/-- 'laws.FnExactHasSolution': WHATEVER THE INPUT: true; the input reads as it did. -/
def fnExactHasSolutionSpec : ChangeSpec := { name := "fnExactHasSolution", fn := fun _ => fun
  | [d] => { results := [.lit (.bool true)], args := [d] }
  | _ => none }
def fnExactHasSolutionRow : OpenClaim := { program := "ytchlpclgkhggeaa", sum := "3bc95ff9eece988e5fd5b19fd2c9ea6a6ecfdea587085543c4fadfc10c41cedc", func := "loop.example/g00830/laws.FnExactHasSolution", spec := "fnExactHasSolution", unfollowed := true, recurses := true, apart := false }
def FnExactHasSolutionSaid : Prop := fnExactHasSolutionRow.holds Try.pinned (OpenSpec.ofChange fnExactHasSolutionSpec)

/-- ITS FALSE NEIGHBOUR: 'it returns false'. Refute it at one input. -/
def fnExactHasSolutionWrong : ChangeSpec := { name := "fnExactHasSolution", fn := fun _ => fun
  | [d] => { results := [.lit (.bool false)], args := [d] }
  | _ => none }
def FnExactHasSolutionWrongFalsely : Prop := fnExactHasSolutionRow.holds Try.pinned (OpenSpec.ofChange fnExactHasSolutionWrong)

/-- 'laws.FnLeast': WHATEVER THE INPUT: true; the input reads as it did. -/
def fnLeastSpec : ChangeSpec := { name := "fnLeast", fn := fun _ => fun
  | [d] => { results := [.lit (.bool true)], args := [d] }
  | _ => none }
def fnLeastRow : OpenClaim := { program := "ytchlpclgkhggeaa", sum := "3bc95ff9eece988e5fd5b19fd2c9ea6a6ecfdea587085543c4fadfc10c41cedc", func := "loop.example/g00830/laws.FnLeast", spec := "fnLeast", unfollowed := true, recurses := true, apart := false }
def FnLeastSaid : Prop := fnLeastRow.holds Try.pinned (OpenSpec.ofChange fnLeastSpec)

/-- ITS FALSE NEIGHBOUR: 'it returns false'. Refute it at one input. -/
def fnLeastWrong : ChangeSpec := { name := "fnLeast", fn := fun _ => fun
  | [d] => { results := [.lit (.bool false)], args := [d] }
  | _ => none }
def FnLeastWrongFalsely : Prop := fnLeastRow.holds Try.pinned (OpenSpec.ofChange fnLeastWrong)

/-- 'laws.FnSolved': WHATEVER THE INPUT: true; the input reads as it did. -/
def fnSolvedSpec : ChangeSpec := { name := "fnSolved", fn := fun _ => fun
  | [d] => { results := [.lit (.bool true)], args := [d] }
  | _ => none }
def fnSolvedRow : OpenClaim := { program := "ytchlpclgkhggeaa", sum := "3bc95ff9eece988e5fd5b19fd2c9ea6a6ecfdea587085543c4fadfc10c41cedc", func := "loop.example/g00830/laws.FnSolved", spec := "fnSolved", unfollowed := true, recurses := true, apart := false }
def FnSolvedSaid : Prop := fnSolvedRow.holds Try.pinned (OpenSpec.ofChange fnSolvedSpec)

/-- ITS FALSE NEIGHBOUR: 'it returns false'. Refute it at one input. -/
def fnSolvedWrong : ChangeSpec := { name := "fnSolved", fn := fun _ => fun
  | [d] => { results := [.lit (.bool false)], args := [d] }
  | _ => none }
def FnSolvedWrongFalsely : Prop := fnSolvedRow.holds Try.pinned (OpenSpec.ofChange fnSolvedWrong)

/-- 'laws.FnFeasible': WHATEVER THE INPUT: true; the input reads as it did. -/
def fnFeasibleSpec : ChangeSpec := { name := "fnFeasible", fn := fun _ => fun
  | [d] => { results := [.lit (.bool true)], args := [d] }
  | _ => none }
def fnFeasibleRow : OpenClaim := { program := "ytchlpclgkhggeaa", sum := "3bc95ff9eece988e5fd5b19fd2c9ea6a6ecfdea587085543c4fadfc10c41cedc", func := "loop.example/g00830/laws.FnFeasible", spec := "fnFeasible", unfollowed := true, recurses := true, apart := false }
def FnFeasibleSaid : Prop := fnFeasibleRow.holds Try.pinned (OpenSpec.ofChange fnFeasibleSpec)

/-- ITS FALSE NEIGHBOUR: 'it returns false'. Refute it at one input. -/
def fnFeasibleWrong : ChangeSpec := { name := "fnFeasible", fn := fun _ => fun
  | [d] => { results := [.lit (.bool false)], args := [d] }
  | _ => none }
def FnFeasibleWrongFalsely : Prop := fnFeasibleRow.holds Try.pinned (OpenSpec.ofChange fnFeasibleWrong)

/-- 'laws.FnWeakDuality': WHATEVER THE INPUT: true; the input reads as it did. -/
def fnWeakDualitySpec : ChangeSpec := { name := "fnWeakDuality", fn := fun _ => fun
  | [d] => { results := [.lit (.bool true)], args := [d] }
  | _ => none }
def fnWeakDualityRow : OpenClaim := { program := "ytchlpclgkhggeaa", sum := "3bc95ff9eece988e5fd5b19fd2c9ea6a6ecfdea587085543c4fadfc10c41cedc", func := "loop.example/g00830/laws.FnWeakDuality", spec := "fnWeakDuality", unfollowed := true, recurses := true, apart := false }
def FnWeakDualitySaid : Prop := fnWeakDualityRow.holds Try.pinned (OpenSpec.ofChange fnWeakDualitySpec)

/-- ITS FALSE NEIGHBOUR: 'it returns false'. Refute it at one input. -/
def fnWeakDualityWrong : ChangeSpec := { name := "fnWeakDuality", fn := fun _ => fun
  | [d] => { results := [.lit (.bool false)], args := [d] }
  | _ => none }
def FnWeakDualityWrongFalsely : Prop := fnWeakDualityRow.holds Try.pinned (OpenSpec.ofChange fnWeakDualityWrong)

/- THE SECOND FORM. 'bulk': how many values and letters a reading holds, each counted each time it is reached (what is shared counts as often as it is met; a slice's spare places count too). A statement '..UptoSaid' is the law's where the arguments, and the package variables that the reading takes, are together of bulk at most 1048576: NARROWER than '..Said'. Prove '..Said' where nothing that the law and all that it calls make is longer than what came in: it says more and counts as full. Else prove '..UptoSaid'. A law counts once. -/
mutual
def uptoBulk {H : Type} : DataW H → Nat
  | .lit (.string bytes) => bytes.length + 1
  | .lit _ => 1
  | .nil => 1
  | .ptr d => uptoBulk d + 1
  | .slice elems spare => uptoBulkAll elems + uptoBulkAll spare + 1
  | .agg parts => uptoBulkAll parts + 1
  | .iface _ d => uptoBulk d + 1
  | .map entries => uptoBulkEntries entries + 1
  | .held _ => 1
def uptoBulkAll {H : Type} : List (DataW H) → Nat
  | [] => 0
  | d :: r => uptoBulk d + uptoBulkAll r
def uptoBulkEntries {H : Type} : List (Lit × DataW H) → Nat
  | [] => 0
  | x :: r => uptoBulkEntry x + uptoBulkEntries r
def uptoBulkEntry {H : Type} : Lit × DataW H → Nat
  | (.string bytes, d) => bytes.length + uptoBulk d + 1
  | (_, d) => uptoBulk d + 1
 end
def uptoSmall : (H : Type) → List (DataW H) → Bool := fun _ ds => decide (uptoBulkAll ds ≤ 1048576)
def OpenSpec.upto (s : _root_.Go.ChangeSpec) : _root_.Go.OpenSpec := { _root_.Go.OpenSpec.ofChange s with cond := some uptoSmall }

/-- 'laws.FnExactHasSolution', WHERE WHAT IT READS IS OF BULK AT MOST 1048576: true; the input reads as it did. -/
def fnExactHasSolutionUptoRow : OpenClaim := { program := "ytchlpclgkhggeaa", sum := "3bc95ff9eece988e5fd5b19fd2c9ea6a6ecfdea587085543c4fadfc10c41cedc", func := "loop.example/g00830/laws.FnExactHasSolution", spec := "fnExactHasSolution", unfollowed := true, recurses := true, apart := false, narrowed := true }
def FnExactHasSolutionUptoSaid : Prop := fnExactHasSolutionUptoRow.holds Try.pinned (OpenSpec.upto fnExactHasSolutionSpec)

/-- 'laws.FnLeast', WHERE WHAT IT READS IS OF BULK AT MOST 1048576: true; the input reads as it did. -/
def fnLeastUptoRow : OpenClaim := { program := "ytchlpclgkhggeaa", sum := "3bc95ff9eece988e5fd5b19fd2c9ea6a6ecfdea587085543c4fadfc10c41cedc", func := "loop.example/g00830/laws.FnLeast", spec := "fnLeast", unfollowed := true, recurses := true, apart := false, narrowed := true }
def FnLeastUptoSaid : Prop := fnLeastUptoRow.holds Try.pinned (OpenSpec.upto fnLeastSpec)

/-- 'laws.FnSolved', WHERE WHAT IT READS IS OF BULK AT MOST 1048576: true; the input reads as it did. -/
def fnSolvedUptoRow : OpenClaim := { program := "ytchlpclgkhggeaa", sum := "3bc95ff9eece988e5fd5b19fd2c9ea6a6ecfdea587085543c4fadfc10c41cedc", func := "loop.example/g00830/laws.FnSolved", spec := "fnSolved", unfollowed := true, recurses := true, apart := false, narrowed := true }
def FnSolvedUptoSaid : Prop := fnSolvedUptoRow.holds Try.pinned (OpenSpec.upto fnSolvedSpec)

/-- 'laws.FnFeasible', WHERE WHAT IT READS IS OF BULK AT MOST 1048576: true; the input reads as it did. -/
def fnFeasibleUptoRow : OpenClaim := { program := "ytchlpclgkhggeaa", sum := "3bc95ff9eece988e5fd5b19fd2c9ea6a6ecfdea587085543c4fadfc10c41cedc", func := "loop.example/g00830/laws.FnFeasible", spec := "fnFeasible", unfollowed := true, recurses := true, apart := false, narrowed := true }
def FnFeasibleUptoSaid : Prop := fnFeasibleUptoRow.holds Try.pinned (OpenSpec.upto fnFeasibleSpec)

/-- 'laws.FnWeakDuality', WHERE WHAT IT READS IS OF BULK AT MOST 1048576: true; the input reads as it did. -/
def fnWeakDualityUptoRow : OpenClaim := { program := "ytchlpclgkhggeaa", sum := "3bc95ff9eece988e5fd5b19fd2c9ea6a6ecfdea587085543c4fadfc10c41cedc", func := "loop.example/g00830/laws.FnWeakDuality", spec := "fnWeakDuality", unfollowed := true, recurses := true, apart := false, narrowed := true }
def FnWeakDualityUptoSaid : Prop := fnWeakDualityUptoRow.holds Try.pinned (OpenSpec.upto fnWeakDualitySpec)

end Rows
end Go.Proofs.Ytchlpclgkhggeaa
