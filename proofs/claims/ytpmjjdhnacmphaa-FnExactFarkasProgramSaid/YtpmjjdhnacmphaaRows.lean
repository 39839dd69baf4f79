/-
  No cell of these rows narrows 'for every input' (looked for: loops, veiled, ifaces, maps, wideKeys, modest, calm, conditions, laid).
  DERIVED. THE GIVEN ROWS OF THIS SEAT. 4 by the template 'for every input the law returns true; each argument reads behind the call as it read before'; 0 by the template 'total and deterministic' (their statements: YtpmjjdhnacmphaaTotals.lean).
  GIVEN WITH THE SEED: the statements are not yours to turn. If you find one false, say at which input.
  Laid BY PROGRAM, IN A SANDBOX (cutbox-rows.mjs): the forced cells as the released guide's own fill.sh prints them over the translation dde683c291aa29b1… (all of the seat's roots in one cut). By AI agents, Wed Nov 11 2026. No macro, syntax, notation, axiom, sorry.
-/
import Derived.Test.YtpmjjdhnacmphaaChecked
import GoSem.Claim
import GoSem.ClaimJoined
import GoSem.ClaimMapViews
import Derived.JoinedTies
import Derived.KernelRfl
namespace Go.Proofs.Ytpmjjdhnacmphaa
/- THE CELL 'sum', in the pinned program and in every row, IS THE sha256 OF THE DUMP (.gsa) THAT YtpmjjdhnacmphaaProg.lean LOADS. Nothing in Lean hashes anything: it is a label: what it is worth is what the hold of that sum in a sandbox is worth. -/
noncomputable def Try.pinned : Pinned := { name := "ytpmjjdhnacmphaa", sum := "dde683c291aa29b154290a8e2dfa8e2e5dbe5fb28c2ff20135966dfe61502738", checked := Try.checked }
namespace Rows
def none {H : Type} : Left H := { results := [], args := [] }

/-- 'laws.FnExactDualProgram': WHATEVER THE INPUT: true; the input reads as it did. -/
def fnExactDualProgramSpec : ChangeSpec := { name := "fnExactDualProgram", fn := fun _ => fun
  | [d] => { results := [.lit (.bool true)], args := [d] }
  | _ => none }
def fnExactDualProgramRow : OpenClaim := { program := "ytpmjjdhnacmphaa", sum := "dde683c291aa29b154290a8e2dfa8e2e5dbe5fb28c2ff20135966dfe61502738", func := "loop.example/g00830/laws.FnExactDualProgram", spec := "fnExactDualProgram", unfollowed := true, recurses := true, apart := false }
def FnExactDualProgramSaid : Prop := fnExactDualProgramRow.holds Try.pinned (OpenSpec.ofChange fnExactDualProgramSpec)

/-- ITS FALSE NEIGHBOUR: 'it returns false'. Refute it at one input. -/
def fnExactDualProgramWrong : ChangeSpec := { name := "fnExactDualProgram", fn := fun _ => fun
  | [d] => { results := [.lit (.bool false)], args := [d] }
  | _ => none }
def FnExactDualProgramWrongFalsely : Prop := fnExactDualProgramRow.holds Try.pinned (OpenSpec.ofChange fnExactDualProgramWrong)

/-- 'laws.FnExactFarkasProgram': WHATEVER THE INPUT: true; the input reads as it did. -/
def fnExactFarkasProgramSpec : ChangeSpec := { name := "fnExactFarkasProgram", fn := fun _ => fun
  | [d] => { results := [.lit (.bool true)], args := [d] }
  | _ => none }
def fnExactFarkasProgramRow : OpenClaim := { program := "ytpmjjdhnacmphaa", sum := "dde683c291aa29b154290a8e2dfa8e2e5dbe5fb28c2ff20135966dfe61502738", func := "loop.example/g00830/laws.FnExactFarkasProgram", spec := "fnExactFarkasProgram", unfollowed := true, recurses := true, apart := false }
def FnExactFarkasProgramSaid : Prop := fnExactFarkasProgramRow.holds Try.pinned (OpenSpec.ofChange fnExactFarkasProgramSpec)

/-- ITS FALSE NEIGHBOUR: 'it returns false'. Refute it at one input. -/
def fnExactFarkasProgramWrong : ChangeSpec := { name := "fnExactFarkasProgram", fn := fun _ => fun
  | [d] => { results := [.lit (.bool false)], args := [d] }
  | _ => none }
def FnExactFarkasProgramWrongFalsely : Prop := fnExactFarkasProgramRow.holds Try.pinned (OpenSpec.ofChange fnExactFarkasProgramWrong)

/-- 'laws.FnTraces': WHATEVER THE INPUT: true; the input reads as it did. -/
def fnTracesSpec : ChangeSpec := { name := "fnTraces", fn := fun _ => fun
  | [d] => { results := [.lit (.bool true)], args := [d] }
  | _ => none }
def fnTracesRow : OpenClaim := { program := "ytpmjjdhnacmphaa", sum := "dde683c291aa29b154290a8e2dfa8e2e5dbe5fb28c2ff20135966dfe61502738", func := "loop.example/g00830/laws.FnTraces", spec := "fnTraces", unfollowed := true, recurses := true, apart := false }
def FnTracesSaid : Prop := fnTracesRow.holds Try.pinned (OpenSpec.ofChange fnTracesSpec)

/-- ITS FALSE NEIGHBOUR: 'it returns false'. Refute it at one input. -/
def fnTracesWrong : ChangeSpec := { name := "fnTraces", fn := fun _ => fun
  | [d] => { results := [.lit (.bool false)], args := [d] }
  | _ => none }
def FnTracesWrongFalsely : Prop := fnTracesRow.holds Try.pinned (OpenSpec.ofChange fnTracesWrong)

/-- 'laws.FnMatrices': WHATEVER THE INPUT: true; the input reads as it did. -/
def fnMatricesSpec : ChangeSpec := { name := "fnMatrices", fn := fun _ => fun
  | [d] => { results := [.lit (.bool true)], args := [d] }
  | _ => none }
def fnMatricesRow : OpenClaim := { program := "ytpmjjdhnacmphaa", sum := "dde683c291aa29b154290a8e2dfa8e2e5dbe5fb28c2ff20135966dfe61502738", func := "loop.example/g00830/laws.FnMatrices", spec := "fnMatrices", unfollowed := true, recurses := true, apart := false }
def FnMatricesSaid : Prop := fnMatricesRow.holds Try.pinned (OpenSpec.ofChange fnMatricesSpec)

/-- ITS FALSE NEIGHBOUR: 'it returns false'. Refute it at one input. -/
def fnMatricesWrong : ChangeSpec := { name := "fnMatrices", fn := fun _ => fun
  | [d] => { results := [.lit (.bool false)], args := [d] }
  | _ => none }
def FnMatricesWrongFalsely : Prop := fnMatricesRow.holds Try.pinned (OpenSpec.ofChange fnMatricesWrong)

/- THE SECOND FORM. 'bulk': how many values and letters a reading holds, each counted each time it is reached (what is shared counts as often as it is met; a slice's spare places count too). A statement '..UptoSaid' is the law's where the arguments, and the package variables that the reading takes, are together of bulk at most 1048576: NARROWER than '..Said'. Prove '..Said' where nothing that the law and all that it calls make is longer than what came in: it says more and counts as full. Else prove '..UptoSaid'. A law counts once. -/
mutual
def uptoBulk {H : Type} : DataW H → Nat
  | .lit (.string bytes) => bytes.length + 1
  | .lit _ => 1
  | .nil => 1
  | .ptr d => uptoBulk d + 1
  | .slice elems spare => uptoBulkAll elems + uptoBulkAll spare + 1
  | .agg parts => uptoBulkAll parts + 1
  | .iface _ d => uptoBulk d + 1
  | .map entries => uptoBulkEntries entries + 1
  | .held _ => 1
def uptoBulkAll {H : Type} : List (DataW H) → Nat
  | [] => 0
  | d :: r => uptoBulk d + uptoBulkAll r
def uptoBulkEntries {H : Type} : List (Lit × DataW H) → Nat
  | [] => 0
  | x :: r => uptoBulkEntry x + uptoBulkEntries r
def uptoBulkEntry {H : Type} : Lit × DataW H → Nat
  | (.string bytes, d) => bytes.length + uptoBulk d + 1
  | (_, d) => uptoBulk d + 1
 end
def uptoSmall : (H : Type) → List (DataW H) → Bool := fun _ ds => decide (uptoBulkAll ds ≤ 1048576)
def OpenSpec.upto (s : _root_.Go.ChangeSpec) : _root_.Go.OpenSpec := { _root_.Go.OpenSpec.ofChange s with cond := some uptoSmall }

/-- 'laws.FnExactDualProgram', WHERE WHAT IT READS IS OF BULK AT MOST 1048576: true; the input reads as it did. -/
def fnExactDualProgramUptoRow : OpenClaim := { program := "ytpmjjdhnacmphaa", sum := "dde683c291aa29b154290a8e2dfa8e2e5dbe5fb28c2ff20135966dfe61502738", func := "loop.example/g00830/laws.FnExactDualProgram", spec := "fnExactDualProgram", unfollowed := true, recurses := true, apart := false, narrowed := true }
def FnExactDualProgramUptoSaid : Prop := fnExactDualProgramUptoRow.holds Try.pinned (OpenSpec.upto fnExactDualProgramSpec)

/-- 'laws.FnExactFarkasProgram', WHERE WHAT IT READS IS OF BULK AT MOST 1048576: true; the input reads as it did. -/
def fnExactFarkasProgramUptoRow : OpenClaim := { program := "ytpmjjdhnacmphaa", sum := "dde683c291aa29b154290a8e2dfa8e2e5dbe5fb28c2ff20135966dfe61502738", func := "loop.example/g00830/laws.FnExactFarkasProgram", spec := "fnExactFarkasProgram", unfollowed := true, recurses := true, apart := false, narrowed := true }
def FnExactFarkasProgramUptoSaid : Prop := fnExactFarkasProgramUptoRow.holds Try.pinned (OpenSpec.upto fnExactFarkasProgramSpec)

/-- 'laws.FnTraces', WHERE WHAT IT READS IS OF BULK AT MOST 1048576: true; the input reads as it did. -/
def fnTracesUptoRow : OpenClaim := { program := "ytpmjjdhnacmphaa", sum := "dde683c291aa29b154290a8e2dfa8e2e5dbe5fb28c2ff20135966dfe61502738", func := "loop.example/g00830/laws.FnTraces", spec := "fnTraces", unfollowed := true, recurses := true, apart := false, narrowed := true }
def FnTracesUptoSaid : Prop := fnTracesUptoRow.holds Try.pinned (OpenSpec.upto fnTracesSpec)

/-- 'laws.FnMatrices', WHERE WHAT IT READS IS OF BULK AT MOST 1048576: true; the input reads as it did. -/
def fnMatricesUptoRow : OpenClaim := { program := "ytpmjjdhnacmphaa", sum := "dde683c291aa29b154290a8e2dfa8e2e5dbe5fb28c2ff20135966dfe61502738", func := "loop.example/g00830/laws.FnMatrices", spec := "fnMatrices", unfollowed := true, recurses := true, apart := false, narrowed := true }
def FnMatricesUptoSaid : Prop := fnMatricesUptoRow.holds Try.pinned (OpenSpec.upto fnMatricesSpec)

end Rows
end Go.Proofs.Ytpmjjdhnacmphaa
