/-
  No cell of these rows narrows 'for every input' (looked for: loops, veiled, ifaces, maps, wideKeys, modest, calm, conditions, laid).
  DERIVED. THE GIVEN ROWS OF THIS SEAT. 15 by the template 'for every input the law returns true; each argument reads behind the call as it read before'; 0 by the template 'total and deterministic' (their statements: YtkllbcfhkhfniaaTotals.lean).
  GIVEN WITH THE SEED: the statements are not yours to turn. If you find one false, say at which input.
  Laid BY PROGRAM, IN A SANDBOX (cutbox-rows.mjs): the forced cells as the released guide's own fill.sh prints them over the translation 1a6cb61bc6f4cfa8… (all of the seat's roots in one cut). By AI agents, Wed Nov 11 2026. No macro, syntax, notation, axiom, sorry.
-/
import Derived.Test.YtkllbcfhkhfniaaChecked
import GoSem.Claim
import GoSem.ClaimJoined
import GoSem.ClaimMapViews
import Derived.JoinedTies
import Derived.KernelRfl
namespace Go.Proofs.Ytkllbcfhkhfniaa
/- THE CELL 'sum', in the pinned program and in every row, IS THE sha256 OF THE DUMP (.gsa) THAT YtkllbcfhkhfniaaProg.lean LOADS. Nothing in Lean hashes anything: it is a label: what it is worth is what the hold of that sum in a sandbox is worth. -/
noncomputable def Try.pinned : Pinned := { name := "ytkllbcfhkhfniaa", sum := "1a6cb61bc6f4cfa86aa8e96336ad5d19dd002413fb3c1bdfc63f6548e332b3cb", checked := Try.checked }
namespace Rows
def none {H : Type} : Left H := { results := [], args := [] }

/-- 'laws.FnExactDualProgram': WHATEVER THE INPUT: true; the input reads as it did. -/
def fnExactDualProgramSpec : ChangeSpec := { name := "fnExactDualProgram", fn := fun _ => fun
  | [d] => { results := [.lit (.bool true)], args := [d] }
  | _ => none }
def fnExactDualProgramRow : OpenClaim := { program := "ytkllbcfhkhfniaa", sum := "1a6cb61bc6f4cfa86aa8e96336ad5d19dd002413fb3c1bdfc63f6548e332b3cb", func := "loop.example/g00830/laws.FnExactDualProgram", spec := "fnExactDualProgram", unfollowed := true, recurses := true, apart := false }
def FnExactDualProgramSaid : Prop := fnExactDualProgramRow.holds Try.pinned (OpenSpec.ofChange fnExactDualProgramSpec)

/-- ITS FALSE NEIGHBOUR: 'it returns false'. Refute it at one input. -/
def fnExactDualProgramWrong : ChangeSpec := { name := "fnExactDualProgram", fn := fun _ => fun
  | [d] => { results := [.lit (.bool false)], args := [d] }
  | _ => none }
def FnExactDualProgramWrongFalsely : Prop := fnExactDualProgramRow.holds Try.pinned (OpenSpec.ofChange fnExactDualProgramWrong)

/-- 'laws.FnExactFarkasProgram': WHATEVER THE INPUT: true; the input reads as it did. -/
def fnExactFarkasProgramSpec : ChangeSpec := { name := "fnExactFarkasProgram", fn := fun _ => fun
  | [d] => { results := [.lit (.bool true)], args := [d] }
  | _ => none }
def fnExactFarkasProgramRow : OpenClaim := { program := "ytkllbcfhkhfniaa", sum := "1a6cb61bc6f4cfa86aa8e96336ad5d19dd002413fb3c1bdfc63f6548e332b3cb", func := "loop.example/g00830/laws.FnExactFarkasProgram", spec := "fnExactFarkasProgram", unfollowed := true, recurses := true, apart := false }
def FnExactFarkasProgramSaid : Prop := fnExactFarkasProgramRow.holds Try.pinned (OpenSpec.ofChange fnExactFarkasProgramSpec)

/-- ITS FALSE NEIGHBOUR: 'it returns false'. Refute it at one input. -/
def fnExactFarkasProgramWrong : ChangeSpec := { name := "fnExactFarkasProgram", fn := fun _ => fun
  | [d] => { results := [.lit (.bool false)], args := [d] }
  | _ => none }
def FnExactFarkasProgramWrongFalsely : Prop := fnExactFarkasProgramRow.holds Try.pinned (OpenSpec.ofChange fnExactFarkasProgramWrong)

/-- 'laws.FnTraces': WHATEVER THE INPUT: true; the input reads as it did. -/
def fnTracesSpec : ChangeSpec := { name := "fnTraces", fn := fun _ => fun
  | [d] => { results := [.lit (.bool true)], args := [d] }
  | _ => none }
def fnTracesRow : OpenClaim := { program := "ytkllbcfhkhfniaa", sum := "1a6cb61bc6f4cfa86aa8e96336ad5d19dd002413fb3c1bdfc63f6548e332b3cb", func := "loop.example/g00830/laws.FnTraces", spec := "fnTraces", unfollowed := true, recurses := true, apart := false }
def FnTracesSaid : Prop := fnTracesRow.holds Try.pinned (OpenSpec.ofChange fnTracesSpec)

/-- ITS FALSE NEIGHBOUR: 'it returns false'. Refute it at one input. -/
def fnTracesWrong : ChangeSpec := { name := "fnTraces", fn := fun _ => fun
  | [d] => { results := [.lit (.bool false)], args := [d] }
  | _ => none }
def FnTracesWrongFalsely : Prop := fnTracesRow.holds Try.pinned (OpenSpec.ofChange fnTracesWrong)

/-- 'laws.FnMatrices': WHATEVER THE INPUT: true; the input reads as it did. -/
def fnMatricesSpec : ChangeSpec := { name := "fnMatrices", fn := fun _ => fun
  | [d] => { results := [.lit (.bool true)], args := [d] }
  | _ => none }
def fnMatricesRow : OpenClaim := { program := "ytkllbcfhkhfniaa", sum := "1a6cb61bc6f4cfa86aa8e96336ad5d19dd002413fb3c1bdfc63f6548e332b3cb", func := "loop.example/g00830/laws.FnMatrices", spec := "fnMatrices", unfollowed := true, recurses := true, apart := false }
def FnMatricesSaid : Prop := fnMatricesRow.holds Try.pinned (OpenSpec.ofChange fnMatricesSpec)

/-- ITS FALSE NEIGHBOUR: 'it returns false'. Refute it at one input. -/
def fnMatricesWrong : ChangeSpec := { name := "fnMatrices", fn := fun _ => fun
  | [d] => { results := [.lit (.bool false)], args := [d] }
  | _ => none }
def FnMatricesWrongFalsely : Prop := fnMatricesRow.holds Try.pinned (OpenSpec.ofChange fnMatricesWrong)

/-- 'laws.FnExactAddVectors': WHATEVER THE INPUT: true; the input reads as it did. -/
def fnExactAddVectorsSpec : ChangeSpec := { name := "fnExactAddVectors", fn := fun _ => fun
  | [d1, d2] => { results := [.lit (.bool true)], args := [d1, d2] }
  | _ => none }
def fnExactAddVectorsRow : OpenClaim := { program := "ytkllbcfhkhfniaa", sum := "1a6cb61bc6f4cfa86aa8e96336ad5d19dd002413fb3c1bdfc63f6548e332b3cb", func := "loop.example/g00830/laws.FnExactAddVectors", spec := "fnExactAddVectors", unfollowed := true, recurses := true, apart := false }
def FnExactAddVectorsSaid : Prop := fnExactAddVectorsRow.holds Try.pinned (OpenSpec.ofChange fnExactAddVectorsSpec)

/-- ITS FALSE NEIGHBOUR: 'it returns false'. Refute it at one input. -/
def fnExactAddVectorsWrong : ChangeSpec := { name := "fnExactAddVectors", fn := fun _ => fun
  | [d1, d2] => { results := [.lit (.bool false)], args := [d1, d2] }
  | _ => none }
def FnExactAddVectorsWrongFalsely : Prop := fnExactAddVectorsRow.holds Try.pinned (OpenSpec.ofChange fnExactAddVectorsWrong)

/-- 'laws.FnExactSubtractVectors': WHATEVER THE INPUT: true; the input reads as it did. -/
def fnExactSubtractVectorsSpec : ChangeSpec := { name := "fnExactSubtractVectors", fn := fun _ => fun
  | [d1, d2] => { results := [.lit (.bool true)], args := [d1, d2] }
  | _ => none }
def fnExactSubtractVectorsRow : OpenClaim := { program := "ytkllbcfhkhfniaa", sum := "1a6cb61bc6f4cfa86aa8e96336ad5d19dd002413fb3c1bdfc63f6548e332b3cb", func := "loop.example/g00830/laws.FnExactSubtractVectors", spec := "fnExactSubtractVectors", unfollowed := true, recurses := true, apart := false }
def FnExactSubtractVectorsSaid : Prop := fnExactSubtractVectorsRow.holds Try.pinned (OpenSpec.ofChange fnExactSubtractVectorsSpec)

/-- ITS FALSE NEIGHBOUR: 'it returns false'. Refute it at one input. -/
def fnExactSubtractVectorsWrong : ChangeSpec := { name := "fnExactSubtractVectors", fn := fun _ => fun
  | [d1, d2] => { results := [.lit (.bool false)], args := [d1, d2] }
  | _ => none }
def FnExactSubtractVectorsWrongFalsely : Prop := fnExactSubtractVectorsRow.holds Try.pinned (OpenSpec.ofChange fnExactSubtractVectorsWrong)

/-- 'laws.FnExactInnerProduct': WHATEVER THE INPUT: true; the input reads as it did. -/
def fnExactInnerProductSpec : ChangeSpec := { name := "fnExactInnerProduct", fn := fun _ => fun
  | [d1, d2] => { results := [.lit (.bool true)], args := [d1, d2] }
  | _ => none }
def fnExactInnerProductRow : OpenClaim := { program := "ytkllbcfhkhfniaa", sum := "1a6cb61bc6f4cfa86aa8e96336ad5d19dd002413fb3c1bdfc63f6548e332b3cb", func := "loop.example/g00830/laws.FnExactInnerProduct", spec := "fnExactInnerProduct", unfollowed := true, recurses := true, apart := false }
def FnExactInnerProductSaid : Prop := fnExactInnerProductRow.holds Try.pinned (OpenSpec.ofChange fnExactInnerProductSpec)

/-- ITS FALSE NEIGHBOUR: 'it returns false'. Refute it at one input. -/
def fnExactInnerProductWrong : ChangeSpec := { name := "fnExactInnerProduct", fn := fun _ => fun
  | [d1, d2] => { results := [.lit (.bool false)], args := [d1, d2] }
  | _ => none }
def FnExactInnerProductWrongFalsely : Prop := fnExactInnerProductRow.holds Try.pinned (OpenSpec.ofChange fnExactInnerProductWrong)

/-- 'laws.FnExactAddMatrices': WHATEVER THE INPUT: true; the input reads as it did. -/
def fnExactAddMatricesSpec : ChangeSpec := { name := "fnExactAddMatrices", fn := fun _ => fun
  | [d1, d2] => { results := [.lit (.bool true)], args := [d1, d2] }
  | _ => none }
def fnExactAddMatricesRow : OpenClaim := { program := "ytkllbcfhkhfniaa", sum := "1a6cb61bc6f4cfa86aa8e96336ad5d19dd002413fb3c1bdfc63f6548e332b3cb", func := "loop.example/g00830/laws.FnExactAddMatrices", spec := "fnExactAddMatrices", unfollowed := true, recurses := true, apart := false }
def FnExactAddMatricesSaid : Prop := fnExactAddMatricesRow.holds Try.pinned (OpenSpec.ofChange fnExactAddMatricesSpec)

/-- ITS FALSE NEIGHBOUR: 'it returns false'. Refute it at one input. -/
def fnExactAddMatricesWrong : ChangeSpec := { name := "fnExactAddMatrices", fn := fun _ => fun
  | [d1, d2] => { results := [.lit (.bool false)], args := [d1, d2] }
  | _ => none }
def FnExactAddMatricesWrongFalsely : Prop := fnExactAddMatricesRow.holds Try.pinned (OpenSpec.ofChange fnExactAddMatricesWrong)

/-- 'laws.FnExactTraceOf': WHATEVER THE INPUT: true; the input reads as it did. -/
def fnExactTraceOfSpec : ChangeSpec := { name := "fnExactTraceOf", fn := fun _ => fun
  | [d] => { results := [.lit (.bool true)], args := [d] }
  | _ => none }
def fnExactTraceOfRow : OpenClaim := { program := "ytkllbcfhkhfniaa", sum := "1a6cb61bc6f4cfa86aa8e96336ad5d19dd002413fb3c1bdfc63f6548e332b3cb", func := "loop.example/g00830/laws.FnExactTraceOf", spec := "fnExactTraceOf", unfollowed := true, recurses := true, apart := false }
def FnExactTraceOfSaid : Prop := fnExactTraceOfRow.holds Try.pinned (OpenSpec.ofChange fnExactTraceOfSpec)

/-- ITS FALSE NEIGHBOUR: 'it returns false'. Refute it at one input. -/
def fnExactTraceOfWrong : ChangeSpec := { name := "fnExactTraceOf", fn := fun _ => fun
  | [d] => { results := [.lit (.bool false)], args := [d] }
  | _ => none }
def FnExactTraceOfWrongFalsely : Prop := fnExactTraceOfRow.holds Try.pinned (OpenSpec.ofChange fnExactTraceOfWrong)

/-- 'laws.FnExactIsDual': WHATEVER THE INPUT: true; the input reads as it did. -/
def fnExactIsDualSpec : ChangeSpec := { name := "fnExactIsDual", fn := fun _ => fun
  | [d1, d2] => { results := [.lit (.bool true)], args := [d1, d2] }
  | _ => none }
def fnExactIsDualRow : OpenClaim := { program := "ytkllbcfhkhfniaa", sum := "1a6cb61bc6f4cfa86aa8e96336ad5d19dd002413fb3c1bdfc63f6548e332b3cb", func := "loop.example/g00830/laws.FnExactIsDual", spec := "fnExactIsDual", unfollowed := true, recurses := true, apart := false }
def FnExactIsDualSaid : Prop := fnExactIsDualRow.holds Try.pinned (OpenSpec.ofChange fnExactIsDualSpec)

/-- ITS FALSE NEIGHBOUR: 'it returns false'. Refute it at one input. -/
def fnExactIsDualWrong : ChangeSpec := { name := "fnExactIsDual", fn := fun _ => fun
  | [d1, d2] => { results := [.lit (.bool false)], args := [d1, d2] }
  | _ => none }
def FnExactIsDualWrongFalsely : Prop := fnExactIsDualRow.holds Try.pinned (OpenSpec.ofChange fnExactIsDualWrong)

/-- 'laws.FnExactIsFeasible': WHATEVER THE INPUT: true; the input reads as it did. -/
def fnExactIsFeasibleSpec : ChangeSpec := { name := "fnExactIsFeasible", fn := fun _ => fun
  | [d1, d2] => { results := [.lit (.bool true)], args := [d1, d2] }
  | _ => none }
def fnExactIsFeasibleRow : OpenClaim := { program := "ytkllbcfhkhfniaa", sum := "1a6cb61bc6f4cfa86aa8e96336ad5d19dd002413fb3c1bdfc63f6548e332b3cb", func := "loop.example/g00830/laws.FnExactIsFeasible", spec := "fnExactIsFeasible", unfollowed := true, recurses := true, apart := false }
def FnExactIsFeasibleSaid : Prop := fnExactIsFeasibleRow.holds Try.pinned (OpenSpec.ofChange fnExactIsFeasibleSpec)

/-- ITS FALSE NEIGHBOUR: 'it returns false'. Refute it at one input. -/
def fnExactIsFeasibleWrong : ChangeSpec := { name := "fnExactIsFeasible", fn := fun _ => fun
  | [d1, d2] => { results := [.lit (.bool false)], args := [d1, d2] }
  | _ => none }
def FnExactIsFeasibleWrongFalsely : Prop := fnExactIsFeasibleRow.holds Try.pinned (OpenSpec.ofChange fnExactIsFeasibleWrong)

/-- 'laws.FnExactIsFarkas': WHATEVER THE INPUT: true; the input reads as it did. -/
def fnExactIsFarkasSpec : ChangeSpec := { name := "fnExactIsFarkas", fn := fun _ => fun
  | [d1, d2] => { results := [.lit (.bool true)], args := [d1, d2] }
  | _ => none }
def fnExactIsFarkasRow : OpenClaim := { program := "ytkllbcfhkhfniaa", sum := "1a6cb61bc6f4cfa86aa8e96336ad5d19dd002413fb3c1bdfc63f6548e332b3cb", func := "loop.example/g00830/laws.FnExactIsFarkas", spec := "fnExactIsFarkas", unfollowed := true, recurses := true, apart := false }
def FnExactIsFarkasSaid : Prop := fnExactIsFarkasRow.holds Try.pinned (OpenSpec.ofChange fnExactIsFarkasSpec)

/-- ITS FALSE NEIGHBOUR: 'it returns false'. Refute it at one input. -/
def fnExactIsFarkasWrong : ChangeSpec := { name := "fnExactIsFarkas", fn := fun _ => fun
  | [d1, d2] => { results := [.lit (.bool false)], args := [d1, d2] }
  | _ => none }
def FnExactIsFarkasWrongFalsely : Prop := fnExactIsFarkasRow.holds Try.pinned (OpenSpec.ofChange fnExactIsFarkasWrong)

/-- 'laws.FnExactBoundAt': WHATEVER THE INPUT: true; the input reads as it did. -/
def fnExactBoundAtSpec : ChangeSpec := { name := "fnExactBoundAt", fn := fun _ => fun
  | [d1, d2] => { results := [.lit (.bool true)], args := [d1, d2] }
  | _ => none }
def fnExactBoundAtRow : OpenClaim := { program := "ytkllbcfhkhfniaa", sum := "1a6cb61bc6f4cfa86aa8e96336ad5d19dd002413fb3c1bdfc63f6548e332b3cb", func := "loop.example/g00830/laws.FnExactBoundAt", spec := "fnExactBoundAt", unfollowed := true, recurses := true, apart := false }
def FnExactBoundAtSaid : Prop := fnExactBoundAtRow.holds Try.pinned (OpenSpec.ofChange fnExactBoundAtSpec)

/-- ITS FALSE NEIGHBOUR: 'it returns false'. Refute it at one input. -/
def fnExactBoundAtWrong : ChangeSpec := { name := "fnExactBoundAt", fn := fun _ => fun
  | [d1, d2] => { results := [.lit (.bool false)], args := [d1, d2] }
  | _ => none }
def FnExactBoundAtWrongFalsely : Prop := fnExactBoundAtRow.holds Try.pinned (OpenSpec.ofChange fnExactBoundAtWrong)

/-- 'laws.FnExactObjectiveAt': WHATEVER THE INPUT: true; the input reads as it did. -/
def fnExactObjectiveAtSpec : ChangeSpec := { name := "fnExactObjectiveAt", fn := fun _ => fun
  | [d1, d2] => { results := [.lit (.bool true)], args := [d1, d2] }
  | _ => none }
def fnExactObjectiveAtRow : OpenClaim := { program := "ytkllbcfhkhfniaa", sum := "1a6cb61bc6f4cfa86aa8e96336ad5d19dd002413fb3c1bdfc63f6548e332b3cb", func := "loop.example/g00830/laws.FnExactObjectiveAt", spec := "fnExactObjectiveAt", unfollowed := true, recurses := true, apart := false }
def FnExactObjectiveAtSaid : Prop := fnExactObjectiveAtRow.holds Try.pinned (OpenSpec.ofChange fnExactObjectiveAtSpec)

/-- ITS FALSE NEIGHBOUR: 'it returns false'. Refute it at one input. -/
def fnExactObjectiveAtWrong : ChangeSpec := { name := "fnExactObjectiveAt", fn := fun _ => fun
  | [d1, d2] => { results := [.lit (.bool false)], args := [d1, d2] }
  | _ => none }
def FnExactObjectiveAtWrongFalsely : Prop := fnExactObjectiveAtRow.holds Try.pinned (OpenSpec.ofChange fnExactObjectiveAtWrong)

/-- 'laws.FnExactScaleVector': WHATEVER THE INPUT: true; the input reads as it did. -/
def fnExactScaleVectorSpec : ChangeSpec := { name := "fnExactScaleVector", fn := fun _ => fun
  | [d1, d2] => { results := [.lit (.bool true)], args := [d1, d2] }
  | _ => none }
def fnExactScaleVectorRow : OpenClaim := { program := "ytkllbcfhkhfniaa", sum := "1a6cb61bc6f4cfa86aa8e96336ad5d19dd002413fb3c1bdfc63f6548e332b3cb", func := "loop.example/g00830/laws.FnExactScaleVector", spec := "fnExactScaleVector", unfollowed := true, recurses := true, apart := false }
def FnExactScaleVectorSaid : Prop := fnExactScaleVectorRow.holds Try.pinned (OpenSpec.ofChange fnExactScaleVectorSpec)

/-- ITS FALSE NEIGHBOUR: 'it returns false'. Refute it at one input. -/
def fnExactScaleVectorWrong : ChangeSpec := { name := "fnExactScaleVector", fn := fun _ => fun
  | [d1, d2] => { results := [.lit (.bool false)], args := [d1, d2] }
  | _ => none }
def FnExactScaleVectorWrongFalsely : Prop := fnExactScaleVectorRow.holds Try.pinned (OpenSpec.ofChange fnExactScaleVectorWrong)

/- THE SECOND FORM. 'bulk': how many values and letters a reading holds, each counted each time it is reached (what is shared counts as often as it is met; a slice's spare places count too). A statement '..UptoSaid' is the law's where the arguments, and the package variables that the reading takes, are together of bulk at most 1048576: NARROWER than '..Said'. Prove '..Said' where nothing that the law and all that it calls make is longer than what came in: it says more and counts as full. Else prove '..UptoSaid'. A law counts once. -/
mutual
def uptoBulk {H : Type} : DataW H → Nat
  | .lit (.string bytes) => bytes.length + 1
  | .lit _ => 1
  | .nil => 1
  | .ptr d => uptoBulk d + 1
  | .slice elems spare => uptoBulkAll elems + uptoBulkAll spare + 1
  | .agg parts => uptoBulkAll parts + 1
  | .iface _ d => uptoBulk d + 1
  | .map entries => uptoBulkEntries entries + 1
  | .held _ => 1
def uptoBulkAll {H : Type} : List (DataW H) → Nat
  | [] => 0
  | d :: r => uptoBulk d + uptoBulkAll r
def uptoBulkEntries {H : Type} : List (Lit × DataW H) → Nat
  | [] => 0
  | x :: r => uptoBulkEntry x + uptoBulkEntries r
def uptoBulkEntry {H : Type} : Lit × DataW H → Nat
  | (.string bytes, d) => bytes.length + uptoBulk d + 1
  | (_, d) => uptoBulk d + 1
 end
def uptoSmall : (H : Type) → List (DataW H) → Bool := fun _ ds => decide (uptoBulkAll ds ≤ 1048576)
def OpenSpec.upto (s : _root_.Go.ChangeSpec) : _root_.Go.OpenSpec := { _root_.Go.OpenSpec.ofChange s with cond := some uptoSmall }

/-- 'laws.FnExactDualProgram', WHERE WHAT IT READS IS OF BULK AT MOST 1048576: true; the input reads as it did. -/
def fnExactDualProgramUptoRow : OpenClaim := { program := "ytkllbcfhkhfniaa", sum := "1a6cb61bc6f4cfa86aa8e96336ad5d19dd002413fb3c1bdfc63f6548e332b3cb", func := "loop.example/g00830/laws.FnExactDualProgram", spec := "fnExactDualProgram", unfollowed := true, recurses := true, apart := false, narrowed := true }
def FnExactDualProgramUptoSaid : Prop := fnExactDualProgramUptoRow.holds Try.pinned (OpenSpec.upto fnExactDualProgramSpec)

/-- 'laws.FnExactFarkasProgram', WHERE WHAT IT READS IS OF BULK AT MOST 1048576: true; the input reads as it did. -/
def fnExactFarkasProgramUptoRow : OpenClaim := { program := "ytkllbcfhkhfniaa", sum := "1a6cb61bc6f4cfa86aa8e96336ad5d19dd002413fb3c1bdfc63f6548e332b3cb", func := "loop.example/g00830/laws.FnExactFarkasProgram", spec := "fnExactFarkasProgram", unfollowed := true, recurses := true, apart := false, narrowed := true }
def FnExactFarkasProgramUptoSaid : Prop := fnExactFarkasProgramUptoRow.holds Try.pinned (OpenSpec.upto fnExactFarkasProgramSpec)

/-- 'laws.FnTraces', WHERE WHAT IT READS IS OF BULK AT MOST 1048576: true; the input reads as it did. -/
def fnTracesUptoRow : OpenClaim := { program := "ytkllbcfhkhfniaa", sum := "1a6cb61bc6f4cfa86aa8e96336ad5d19dd002413fb3c1bdfc63f6548e332b3cb", func := "loop.example/g00830/laws.FnTraces", spec := "fnTraces", unfollowed := true, recurses := true, apart := false, narrowed := true }
def FnTracesUptoSaid : Prop := fnTracesUptoRow.holds Try.pinned (OpenSpec.upto fnTracesSpec)

/-- 'laws.FnMatrices', WHERE WHAT IT READS IS OF BULK AT MOST 1048576: true; the input reads as it did. -/
def fnMatricesUptoRow : OpenClaim := { program := "ytkllbcfhkhfniaa", sum := "1a6cb61bc6f4cfa86aa8e96336ad5d19dd002413fb3c1bdfc63f6548e332b3cb", func := "loop.example/g00830/laws.FnMatrices", spec := "fnMatrices", unfollowed := true, recurses := true, apart := false, narrowed := true }
def FnMatricesUptoSaid : Prop := fnMatricesUptoRow.holds Try.pinned (OpenSpec.upto fnMatricesSpec)

/-- 'laws.FnExactAddVectors', WHERE WHAT IT READS IS OF BULK AT MOST 1048576: true; the input reads as it did. -/
def fnExactAddVectorsUptoRow : OpenClaim := { program := "ytkllbcfhkhfniaa", sum := "1a6cb61bc6f4cfa86aa8e96336ad5d19dd002413fb3c1bdfc63f6548e332b3cb", func := "loop.example/g00830/laws.FnExactAddVectors", spec := "fnExactAddVectors", unfollowed := true, recurses := true, apart := false, narrowed := true }
def FnExactAddVectorsUptoSaid : Prop := fnExactAddVectorsUptoRow.holds Try.pinned (OpenSpec.upto fnExactAddVectorsSpec)

/-- 'laws.FnExactSubtractVectors', WHERE WHAT IT READS IS OF BULK AT MOST 1048576: true; the input reads as it did. -/
def fnExactSubtractVectorsUptoRow : OpenClaim := { program := "ytkllbcfhkhfniaa", sum := "1a6cb61bc6f4cfa86aa8e96336ad5d19dd002413fb3c1bdfc63f6548e332b3cb", func := "loop.example/g00830/laws.FnExactSubtractVectors", spec := "fnExactSubtractVectors", unfollowed := true, recurses := true, apart := false, narrowed := true }
def FnExactSubtractVectorsUptoSaid : Prop := fnExactSubtractVectorsUptoRow.holds Try.pinned (OpenSpec.upto fnExactSubtractVectorsSpec)

/-- 'laws.FnExactInnerProduct', WHERE WHAT IT READS IS OF BULK AT MOST 1048576: true; the input reads as it did. -/
def fnExactInnerProductUptoRow : OpenClaim := { program := "ytkllbcfhkhfniaa", sum := "1a6cb61bc6f4cfa86aa8e96336ad5d19dd002413fb3c1bdfc63f6548e332b3cb", func := "loop.example/g00830/laws.FnExactInnerProduct", spec := "fnExactInnerProduct", unfollowed := true, recurses := true, apart := false, narrowed := true }
def FnExactInnerProductUptoSaid : Prop := fnExactInnerProductUptoRow.holds Try.pinned (OpenSpec.upto fnExactInnerProductSpec)

/-- 'laws.FnExactAddMatrices', WHERE WHAT IT READS IS OF BULK AT MOST 1048576: true; the input reads as it did. -/
def fnExactAddMatricesUptoRow : OpenClaim := { program := "ytkllbcfhkhfniaa", sum := "1a6cb61bc6f4cfa86aa8e96336ad5d19dd002413fb3c1bdfc63f6548e332b3cb", func := "loop.example/g00830/laws.FnExactAddMatrices", spec := "fnExactAddMatrices", unfollowed := true, recurses := true, apart := false, narrowed := true }
def FnExactAddMatricesUptoSaid : Prop := fnExactAddMatricesUptoRow.holds Try.pinned (OpenSpec.upto fnExactAddMatricesSpec)

/-- 'laws.FnExactTraceOf', WHERE WHAT IT READS IS OF BULK AT MOST 1048576: true; the input reads as it did. -/
def fnExactTraceOfUptoRow : OpenClaim := { program := "ytkllbcfhkhfniaa", sum := "1a6cb61bc6f4cfa86aa8e96336ad5d19dd002413fb3c1bdfc63f6548e332b3cb", func := "loop.example/g00830/laws.FnExactTraceOf", spec := "fnExactTraceOf", unfollowed := true, recurses := true, apart := false, narrowed := true }
def FnExactTraceOfUptoSaid : Prop := fnExactTraceOfUptoRow.holds Try.pinned (OpenSpec.upto fnExactTraceOfSpec)

/-- 'laws.FnExactIsDual', WHERE WHAT IT READS IS OF BULK AT MOST 1048576: true; the input reads as it did. -/
def fnExactIsDualUptoRow : OpenClaim := { program := "ytkllbcfhkhfniaa", sum := "1a6cb61bc6f4cfa86aa8e96336ad5d19dd002413fb3c1bdfc63f6548e332b3cb", func := "loop.example/g00830/laws.FnExactIsDual", spec := "fnExactIsDual", unfollowed := true, recurses := true, apart := false, narrowed := true }
def FnExactIsDualUptoSaid : Prop := fnExactIsDualUptoRow.holds Try.pinned (OpenSpec.upto fnExactIsDualSpec)

/-- 'laws.FnExactIsFeasible', WHERE WHAT IT READS IS OF BULK AT MOST 1048576: true; the input reads as it did. -/
def fnExactIsFeasibleUptoRow : OpenClaim := { program := "ytkllbcfhkhfniaa", sum := "1a6cb61bc6f4cfa86aa8e96336ad5d19dd002413fb3c1bdfc63f6548e332b3cb", func := "loop.example/g00830/laws.FnExactIsFeasible", spec := "fnExactIsFeasible", unfollowed := true, recurses := true, apart := false, narrowed := true }
def FnExactIsFeasibleUptoSaid : Prop := fnExactIsFeasibleUptoRow.holds Try.pinned (OpenSpec.upto fnExactIsFeasibleSpec)

/-- 'laws.FnExactIsFarkas', WHERE WHAT IT READS IS OF BULK AT MOST 1048576: true; the input reads as it did. -/
def fnExactIsFarkasUptoRow : OpenClaim := { program := "ytkllbcfhkhfniaa", sum := "1a6cb61bc6f4cfa86aa8e96336ad5d19dd002413fb3c1bdfc63f6548e332b3cb", func := "loop.example/g00830/laws.FnExactIsFarkas", spec := "fnExactIsFarkas", unfollowed := true, recurses := true, apart := false, narrowed := true }
def FnExactIsFarkasUptoSaid : Prop := fnExactIsFarkasUptoRow.holds Try.pinned (OpenSpec.upto fnExactIsFarkasSpec)

/-- 'laws.FnExactBoundAt', WHERE WHAT IT READS IS OF BULK AT MOST 1048576: true; the input reads as it did. -/
def fnExactBoundAtUptoRow : OpenClaim := { program := "ytkllbcfhkhfniaa", sum := "1a6cb61bc6f4cfa86aa8e96336ad5d19dd002413fb3c1bdfc63f6548e332b3cb", func := "loop.example/g00830/laws.FnExactBoundAt", spec := "fnExactBoundAt", unfollowed := true, recurses := true, apart := false, narrowed := true }
def FnExactBoundAtUptoSaid : Prop := fnExactBoundAtUptoRow.holds Try.pinned (OpenSpec.upto fnExactBoundAtSpec)

/-- 'laws.FnExactObjectiveAt', WHERE WHAT IT READS IS OF BULK AT MOST 1048576: true; the input reads as it did. -/
def fnExactObjectiveAtUptoRow : OpenClaim := { program := "ytkllbcfhkhfniaa", sum := "1a6cb61bc6f4cfa86aa8e96336ad5d19dd002413fb3c1bdfc63f6548e332b3cb", func := "loop.example/g00830/laws.FnExactObjectiveAt", spec := "fnExactObjectiveAt", unfollowed := true, recurses := true, apart := false, narrowed := true }
def FnExactObjectiveAtUptoSaid : Prop := fnExactObjectiveAtUptoRow.holds Try.pinned (OpenSpec.upto fnExactObjectiveAtSpec)

/-- 'laws.FnExactScaleVector', WHERE WHAT IT READS IS OF BULK AT MOST 1048576: true; the input reads as it did. -/
def fnExactScaleVectorUptoRow : OpenClaim := { program := "ytkllbcfhkhfniaa", sum := "1a6cb61bc6f4cfa86aa8e96336ad5d19dd002413fb3c1bdfc63f6548e332b3cb", func := "loop.example/g00830/laws.FnExactScaleVector", spec := "fnExactScaleVector", unfollowed := true, recurses := true, apart := false, narrowed := true }
def FnExactScaleVectorUptoSaid : Prop := fnExactScaleVectorUptoRow.holds Try.pinned (OpenSpec.upto fnExactScaleVectorSpec)

end Rows
end Go.Proofs.Ytkllbcfhkhfniaa
