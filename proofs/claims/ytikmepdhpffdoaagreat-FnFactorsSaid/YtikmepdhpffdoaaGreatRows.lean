/-
  No cell of these rows narrows 'for every input' (looked for: loops, veiled, ifaces, maps, wideKeys, modest, calm, conditions, laid).
  DERIVED. THE GIVEN ROWS OF THIS SEAT. 11 by the template 'for every input the law returns true; each argument reads behind the call as it read before'; 0 by the template 'total and deterministic' (their statements: YtikmepdhpffdoaaGreatTotals.lean).
  GIVEN WITH THE SEED: the statements are not yours to turn. If you find one false, say at which input.
  Laid BY PROGRAM, IN A SANDBOX (cutbox-rows.mjs): the forced cells as the released guide's own fill.sh prints them over the translation 1a8eb1a0eed02b32… (all of the seat's roots in one cut). By AI agents, Wed Nov 11 2026. No macro, syntax, notation, axiom, sorry.
-/
import Derived.Test.YtikmepdhpffdoaaGreatChecked
import GoSem.Claim
import GoSem.ClaimJoined
import GoSem.ClaimMapViews
import Derived.JoinedTies
import Derived.KernelRfl
namespace Go.Proofs.YtikmepdhpffdoaaGreat
/- THE CELL 'sum', in the pinned program and in every row, IS THE sha256 OF THE DUMP (.gsa) THAT YtikmepdhpffdoaaGreatProg.lean LOADS. Nothing in Lean hashes anything: it is a label: what it is worth is what the hold of that sum in a sandbox is worth. -/
noncomputable def Tryz.pinned : Pinned := { name := "ytikmepdhpffdoaagreat", sum := "1a8eb1a0eed02b32f543fd776b27a31045c14ecd675f29c4597dd04f8305753c", checked := Tryz.checked }
namespace Rows
def none {H : Type} : Left H := { results := [], args := [] }

/-- 'laws.FnInverse': WHATEVER THE INPUT: true; the input reads as it did. -/
def fnInverseSpec : ChangeSpec := { name := "fnInverse", fn := fun _ => fun
  | [d] => { results := [.lit (.bool true)], args := [d] }
  | _ => none }
def fnInverseRow : OpenClaim := { program := "ytikmepdhpffdoaagreat", sum := "1a8eb1a0eed02b32f543fd776b27a31045c14ecd675f29c4597dd04f8305753c", func := "loop.example/g00830/laws.FnInverse", spec := "fnInverse", unfollowed := true, recurses := true, apart := false }
def FnInverseSaid : Prop := fnInverseRow.holds Tryz.pinned (OpenSpec.ofChange fnInverseSpec)

/-- ITS FALSE NEIGHBOUR: 'it returns false'. Refute it at one input. -/
def fnInverseWrong : ChangeSpec := { name := "fnInverse", fn := fun _ => fun
  | [d] => { results := [.lit (.bool false)], args := [d] }
  | _ => none }
def FnInverseWrongFalsely : Prop := fnInverseRow.holds Tryz.pinned (OpenSpec.ofChange fnInverseWrong)

/-- 'laws.FnFactors': WHATEVER THE INPUT: true; the input reads as it did. -/
def fnFactorsSpec : ChangeSpec := { name := "fnFactors", fn := fun _ => fun
  | [d] => { results := [.lit (.bool true)], args := [d] }
  | _ => none }
def fnFactorsRow : OpenClaim := { program := "ytikmepdhpffdoaagreat", sum := "1a8eb1a0eed02b32f543fd776b27a31045c14ecd675f29c4597dd04f8305753c", func := "loop.example/g00830/laws.FnFactors", spec := "fnFactors", unfollowed := true, recurses := true, apart := false }
def FnFactorsSaid : Prop := fnFactorsRow.holds Tryz.pinned (OpenSpec.ofChange fnFactorsSpec)

/-- ITS FALSE NEIGHBOUR: 'it returns false'. Refute it at one input. -/
def fnFactorsWrong : ChangeSpec := { name := "fnFactors", fn := fun _ => fun
  | [d] => { results := [.lit (.bool false)], args := [d] }
  | _ => none }
def FnFactorsWrongFalsely : Prop := fnFactorsRow.holds Tryz.pinned (OpenSpec.ofChange fnFactorsWrong)

/-- 'laws.FnExactRankOf': WHATEVER THE INPUT: true; the input reads as it did. -/
def fnExactRankOfSpec : ChangeSpec := { name := "fnExactRankOf", fn := fun _ => fun
  | [d] => { results := [.lit (.bool true)], args := [d] }
  | _ => none }
def fnExactRankOfRow : OpenClaim := { program := "ytikmepdhpffdoaagreat", sum := "1a8eb1a0eed02b32f543fd776b27a31045c14ecd675f29c4597dd04f8305753c", func := "loop.example/g00830/laws.FnExactRankOf", spec := "fnExactRankOf", unfollowed := true, recurses := true, apart := false }
def FnExactRankOfSaid : Prop := fnExactRankOfRow.holds Tryz.pinned (OpenSpec.ofChange fnExactRankOfSpec)

/-- ITS FALSE NEIGHBOUR: 'it returns false'. Refute it at one input. -/
def fnExactRankOfWrong : ChangeSpec := { name := "fnExactRankOf", fn := fun _ => fun
  | [d] => { results := [.lit (.bool false)], args := [d] }
  | _ => none }
def FnExactRankOfWrongFalsely : Prop := fnExactRankOfRow.holds Tryz.pinned (OpenSpec.ofChange fnExactRankOfWrong)

/-- 'laws.FnExactIsPositive': WHATEVER THE INPUT: true; the input reads as it did. -/
def fnExactIsPositiveSpec : ChangeSpec := { name := "fnExactIsPositive", fn := fun _ => fun
  | [d] => { results := [.lit (.bool true)], args := [d] }
  | _ => none }
def fnExactIsPositiveRow : OpenClaim := { program := "ytikmepdhpffdoaagreat", sum := "1a8eb1a0eed02b32f543fd776b27a31045c14ecd675f29c4597dd04f8305753c", func := "loop.example/g00830/laws.FnExactIsPositive", spec := "fnExactIsPositive", unfollowed := true, recurses := true, apart := false }
def FnExactIsPositiveSaid : Prop := fnExactIsPositiveRow.holds Tryz.pinned (OpenSpec.ofChange fnExactIsPositiveSpec)

/-- ITS FALSE NEIGHBOUR: 'it returns false'. Refute it at one input. -/
def fnExactIsPositiveWrong : ChangeSpec := { name := "fnExactIsPositive", fn := fun _ => fun
  | [d] => { results := [.lit (.bool false)], args := [d] }
  | _ => none }
def FnExactIsPositiveWrongFalsely : Prop := fnExactIsPositiveRow.holds Tryz.pinned (OpenSpec.ofChange fnExactIsPositiveWrong)

/-- 'laws.FnExactDeterminant': WHATEVER THE INPUT: true; the input reads as it did. -/
def fnExactDeterminantSpec : ChangeSpec := { name := "fnExactDeterminant", fn := fun _ => fun
  | [d] => { results := [.lit (.bool true)], args := [d] }
  | _ => none }
def fnExactDeterminantRow : OpenClaim := { program := "ytikmepdhpffdoaagreat", sum := "1a8eb1a0eed02b32f543fd776b27a31045c14ecd675f29c4597dd04f8305753c", func := "loop.example/g00830/laws.FnExactDeterminant", spec := "fnExactDeterminant", unfollowed := true, recurses := true, apart := false }
def FnExactDeterminantSaid : Prop := fnExactDeterminantRow.holds Tryz.pinned (OpenSpec.ofChange fnExactDeterminantSpec)

/-- ITS FALSE NEIGHBOUR: 'it returns false'. Refute it at one input. -/
def fnExactDeterminantWrong : ChangeSpec := { name := "fnExactDeterminant", fn := fun _ => fun
  | [d] => { results := [.lit (.bool false)], args := [d] }
  | _ => none }
def FnExactDeterminantWrongFalsely : Prop := fnExactDeterminantRow.holds Tryz.pinned (OpenSpec.ofChange fnExactDeterminantWrong)

/-- 'laws.FnExactReduce': WHATEVER THE INPUT: true; the input reads as it did. -/
def fnExactReduceSpec : ChangeSpec := { name := "fnExactReduce", fn := fun _ => fun
  | [d] => { results := [.lit (.bool true)], args := [d] }
  | _ => none }
def fnExactReduceRow : OpenClaim := { program := "ytikmepdhpffdoaagreat", sum := "1a8eb1a0eed02b32f543fd776b27a31045c14ecd675f29c4597dd04f8305753c", func := "loop.example/g00830/laws.FnExactReduce", spec := "fnExactReduce", unfollowed := true, recurses := true, apart := false }
def FnExactReduceSaid : Prop := fnExactReduceRow.holds Tryz.pinned (OpenSpec.ofChange fnExactReduceSpec)

/-- ITS FALSE NEIGHBOUR: 'it returns false'. Refute it at one input. -/
def fnExactReduceWrong : ChangeSpec := { name := "fnExactReduce", fn := fun _ => fun
  | [d] => { results := [.lit (.bool false)], args := [d] }
  | _ => none }
def FnExactReduceWrongFalsely : Prop := fnExactReduceRow.holds Tryz.pinned (OpenSpec.ofChange fnExactReduceWrong)

/-- 'laws.FnExactFactor': WHATEVER THE INPUT: true; the input reads as it did. -/
def fnExactFactorSpec : ChangeSpec := { name := "fnExactFactor", fn := fun _ => fun
  | [d] => { results := [.lit (.bool true)], args := [d] }
  | _ => none }
def fnExactFactorRow : OpenClaim := { program := "ytikmepdhpffdoaagreat", sum := "1a8eb1a0eed02b32f543fd776b27a31045c14ecd675f29c4597dd04f8305753c", func := "loop.example/g00830/laws.FnExactFactor", spec := "fnExactFactor", unfollowed := true, recurses := true, apart := false }
def FnExactFactorSaid : Prop := fnExactFactorRow.holds Tryz.pinned (OpenSpec.ofChange fnExactFactorSpec)

/-- ITS FALSE NEIGHBOUR: 'it returns false'. Refute it at one input. -/
def fnExactFactorWrong : ChangeSpec := { name := "fnExactFactor", fn := fun _ => fun
  | [d] => { results := [.lit (.bool false)], args := [d] }
  | _ => none }
def FnExactFactorWrongFalsely : Prop := fnExactFactorRow.holds Tryz.pinned (OpenSpec.ofChange fnExactFactorWrong)

/-- 'laws.FnExactSolveSystem': WHATEVER THE INPUT: true; the input reads as it did. -/
def fnExactSolveSystemSpec : ChangeSpec := { name := "fnExactSolveSystem", fn := fun _ => fun
  | [d1, d2] => { results := [.lit (.bool true)], args := [d1, d2] }
  | _ => none }
def fnExactSolveSystemRow : OpenClaim := { program := "ytikmepdhpffdoaagreat", sum := "1a8eb1a0eed02b32f543fd776b27a31045c14ecd675f29c4597dd04f8305753c", func := "loop.example/g00830/laws.FnExactSolveSystem", spec := "fnExactSolveSystem", unfollowed := true, recurses := true, apart := false }
def FnExactSolveSystemSaid : Prop := fnExactSolveSystemRow.holds Tryz.pinned (OpenSpec.ofChange fnExactSolveSystemSpec)

/-- ITS FALSE NEIGHBOUR: 'it returns false'. Refute it at one input. -/
def fnExactSolveSystemWrong : ChangeSpec := { name := "fnExactSolveSystem", fn := fun _ => fun
  | [d1, d2] => { results := [.lit (.bool false)], args := [d1, d2] }
  | _ => none }
def FnExactSolveSystemWrongFalsely : Prop := fnExactSolveSystemRow.holds Tryz.pinned (OpenSpec.ofChange fnExactSolveSystemWrong)

/-- 'laws.FnExactInverse': WHATEVER THE INPUT: true; the input reads as it did. -/
def fnExactInverseSpec : ChangeSpec := { name := "fnExactInverse", fn := fun _ => fun
  | [d] => { results := [.lit (.bool true)], args := [d] }
  | _ => none }
def fnExactInverseRow : OpenClaim := { program := "ytikmepdhpffdoaagreat", sum := "1a8eb1a0eed02b32f543fd776b27a31045c14ecd675f29c4597dd04f8305753c", func := "loop.example/g00830/laws.FnExactInverse", spec := "fnExactInverse", unfollowed := true, recurses := true, apart := false }
def FnExactInverseSaid : Prop := fnExactInverseRow.holds Tryz.pinned (OpenSpec.ofChange fnExactInverseSpec)

/-- ITS FALSE NEIGHBOUR: 'it returns false'. Refute it at one input. -/
def fnExactInverseWrong : ChangeSpec := { name := "fnExactInverse", fn := fun _ => fun
  | [d] => { results := [.lit (.bool false)], args := [d] }
  | _ => none }
def FnExactInverseWrongFalsely : Prop := fnExactInverseRow.holds Tryz.pinned (OpenSpec.ofChange fnExactInverseWrong)

/-- 'laws.FnExactCheckResult': WHATEVER THE INPUT: true; the input reads as it did. -/
def fnExactCheckResultSpec : ChangeSpec := { name := "fnExactCheckResult", fn := fun _ => fun
  | [d1, d2, d3] => { results := [.lit (.bool true)], args := [d1, d2, d3] }
  | _ => none }
def fnExactCheckResultRow : OpenClaim := { program := "ytikmepdhpffdoaagreat", sum := "1a8eb1a0eed02b32f543fd776b27a31045c14ecd675f29c4597dd04f8305753c", func := "loop.example/g00830/laws.FnExactCheckResult", spec := "fnExactCheckResult", unfollowed := true, recurses := true, apart := false }
def FnExactCheckResultSaid : Prop := fnExactCheckResultRow.holds Tryz.pinned (OpenSpec.ofChange fnExactCheckResultSpec)

/-- ITS FALSE NEIGHBOUR: 'it returns false'. Refute it at one input. -/
def fnExactCheckResultWrong : ChangeSpec := { name := "fnExactCheckResult", fn := fun _ => fun
  | [d1, d2, d3] => { results := [.lit (.bool false)], args := [d1, d2, d3] }
  | _ => none }
def FnExactCheckResultWrongFalsely : Prop := fnExactCheckResultRow.holds Tryz.pinned (OpenSpec.ofChange fnExactCheckResultWrong)

/-- 'laws.FnExactNullVectors': WHATEVER THE INPUT: true; the input reads as it did. -/
def fnExactNullVectorsSpec : ChangeSpec := { name := "fnExactNullVectors", fn := fun _ => fun
  | [d] => { results := [.lit (.bool true)], args := [d] }
  | _ => none }
def fnExactNullVectorsRow : OpenClaim := { program := "ytikmepdhpffdoaagreat", sum := "1a8eb1a0eed02b32f543fd776b27a31045c14ecd675f29c4597dd04f8305753c", func := "loop.example/g00830/laws.FnExactNullVectors", spec := "fnExactNullVectors", unfollowed := true, recurses := true, apart := false }
def FnExactNullVectorsSaid : Prop := fnExactNullVectorsRow.holds Tryz.pinned (OpenSpec.ofChange fnExactNullVectorsSpec)

/-- ITS FALSE NEIGHBOUR: 'it returns false'. Refute it at one input. -/
def fnExactNullVectorsWrong : ChangeSpec := { name := "fnExactNullVectors", fn := fun _ => fun
  | [d] => { results := [.lit (.bool false)], args := [d] }
  | _ => none }
def FnExactNullVectorsWrongFalsely : Prop := fnExactNullVectorsRow.holds Tryz.pinned (OpenSpec.ofChange fnExactNullVectorsWrong)

/- THE SECOND FORM. 'bulk': how many values and letters a reading holds, each counted each time it is reached (what is shared counts as often as it is met; a slice's spare places count too). A statement '..UptoSaid' is the law's where the arguments, and the package variables that the reading takes, are together of bulk at most 1048576: NARROWER than '..Said'. Prove '..Said' where nothing that the law and all that it calls make is longer than what came in: it says more and counts as full. Else prove '..UptoSaid'. A law counts once. -/
mutual
def uptoBulk {H : Type} : DataW H → Nat
  | .lit (.string bytes) => bytes.length + 1
  | .lit _ => 1
  | .nil => 1
  | .ptr d => uptoBulk d + 1
  | .slice elems spare => uptoBulkAll elems + uptoBulkAll spare + 1
  | .agg parts => uptoBulkAll parts + 1
  | .iface _ d => uptoBulk d + 1
  | .map entries => uptoBulkEntries entries + 1
  | .held _ => 1
def uptoBulkAll {H : Type} : List (DataW H) → Nat
  | [] => 0
  | d :: r => uptoBulk d + uptoBulkAll r
def uptoBulkEntries {H : Type} : List (Lit × DataW H) → Nat
  | [] => 0
  | x :: r => uptoBulkEntry x + uptoBulkEntries r
def uptoBulkEntry {H : Type} : Lit × DataW H → Nat
  | (.string bytes, d) => bytes.length + uptoBulk d + 1
  | (_, d) => uptoBulk d + 1
 end
def uptoSmall : (H : Type) → List (DataW H) → Bool := fun _ ds => decide (uptoBulkAll ds ≤ 1048576)
def OpenSpec.upto (s : _root_.Go.ChangeSpec) : _root_.Go.OpenSpec := { _root_.Go.OpenSpec.ofChange s with cond := some uptoSmall }

/-- 'laws.FnInverse', WHERE WHAT IT READS IS OF BULK AT MOST 1048576: true; the input reads as it did. -/
def fnInverseUptoRow : OpenClaim := { program := "ytikmepdhpffdoaagreat", sum := "1a8eb1a0eed02b32f543fd776b27a31045c14ecd675f29c4597dd04f8305753c", func := "loop.example/g00830/laws.FnInverse", spec := "fnInverse", unfollowed := true, recurses := true, apart := false, narrowed := true }
def FnInverseUptoSaid : Prop := fnInverseUptoRow.holds Tryz.pinned (OpenSpec.upto fnInverseSpec)

/-- 'laws.FnFactors', WHERE WHAT IT READS IS OF BULK AT MOST 1048576: true; the input reads as it did. -/
def fnFactorsUptoRow : OpenClaim := { program := "ytikmepdhpffdoaagreat", sum := "1a8eb1a0eed02b32f543fd776b27a31045c14ecd675f29c4597dd04f8305753c", func := "loop.example/g00830/laws.FnFactors", spec := "fnFactors", unfollowed := true, recurses := true, apart := false, narrowed := true }
def FnFactorsUptoSaid : Prop := fnFactorsUptoRow.holds Tryz.pinned (OpenSpec.upto fnFactorsSpec)

/-- 'laws.FnExactRankOf', WHERE WHAT IT READS IS OF BULK AT MOST 1048576: true; the input reads as it did. -/
def fnExactRankOfUptoRow : OpenClaim := { program := "ytikmepdhpffdoaagreat", sum := "1a8eb1a0eed02b32f543fd776b27a31045c14ecd675f29c4597dd04f8305753c", func := "loop.example/g00830/laws.FnExactRankOf", spec := "fnExactRankOf", unfollowed := true, recurses := true, apart := false, narrowed := true }
def FnExactRankOfUptoSaid : Prop := fnExactRankOfUptoRow.holds Tryz.pinned (OpenSpec.upto fnExactRankOfSpec)

/-- 'laws.FnExactIsPositive', WHERE WHAT IT READS IS OF BULK AT MOST 1048576: true; the input reads as it did. -/
def fnExactIsPositiveUptoRow : OpenClaim := { program := "ytikmepdhpffdoaagreat", sum := "1a8eb1a0eed02b32f543fd776b27a31045c14ecd675f29c4597dd04f8305753c", func := "loop.example/g00830/laws.FnExactIsPositive", spec := "fnExactIsPositive", unfollowed := true, recurses := true, apart := false, narrowed := true }
def FnExactIsPositiveUptoSaid : Prop := fnExactIsPositiveUptoRow.holds Tryz.pinned (OpenSpec.upto fnExactIsPositiveSpec)

/-- 'laws.FnExactDeterminant', WHERE WHAT IT READS IS OF BULK AT MOST 1048576: true; the input reads as it did. -/
def fnExactDeterminantUptoRow : OpenClaim := { program := "ytikmepdhpffdoaagreat", sum := "1a8eb1a0eed02b32f543fd776b27a31045c14ecd675f29c4597dd04f8305753c", func := "loop.example/g00830/laws.FnExactDeterminant", spec := "fnExactDeterminant", unfollowed := true, recurses := true, apart := false, narrowed := true }
def FnExactDeterminantUptoSaid : Prop := fnExactDeterminantUptoRow.holds Tryz.pinned (OpenSpec.upto fnExactDeterminantSpec)

/-- 'laws.FnExactReduce', WHERE WHAT IT READS IS OF BULK AT MOST 1048576: true; the input reads as it did. -/
def fnExactReduceUptoRow : OpenClaim := { program := "ytikmepdhpffdoaagreat", sum := "1a8eb1a0eed02b32f543fd776b27a31045c14ecd675f29c4597dd04f8305753c", func := "loop.example/g00830/laws.FnExactReduce", spec := "fnExactReduce", unfollowed := true, recurses := true, apart := false, narrowed := true }
def FnExactReduceUptoSaid : Prop := fnExactReduceUptoRow.holds Tryz.pinned (OpenSpec.upto fnExactReduceSpec)

/-- 'laws.FnExactFactor', WHERE WHAT IT READS IS OF BULK AT MOST 1048576: true; the input reads as it did. -/
def fnExactFactorUptoRow : OpenClaim := { program := "ytikmepdhpffdoaagreat", sum := "1a8eb1a0eed02b32f543fd776b27a31045c14ecd675f29c4597dd04f8305753c", func := "loop.example/g00830/laws.FnExactFactor", spec := "fnExactFactor", unfollowed := true, recurses := true, apart := false, narrowed := true }
def FnExactFactorUptoSaid : Prop := fnExactFactorUptoRow.holds Tryz.pinned (OpenSpec.upto fnExactFactorSpec)

/-- 'laws.FnExactSolveSystem', WHERE WHAT IT READS IS OF BULK AT MOST 1048576: true; the input reads as it did. -/
def fnExactSolveSystemUptoRow : OpenClaim := { program := "ytikmepdhpffdoaagreat", sum := "1a8eb1a0eed02b32f543fd776b27a31045c14ecd675f29c4597dd04f8305753c", func := "loop.example/g00830/laws.FnExactSolveSystem", spec := "fnExactSolveSystem", unfollowed := true, recurses := true, apart := false, narrowed := true }
def FnExactSolveSystemUptoSaid : Prop := fnExactSolveSystemUptoRow.holds Tryz.pinned (OpenSpec.upto fnExactSolveSystemSpec)

/-- 'laws.FnExactInverse', WHERE WHAT IT READS IS OF BULK AT MOST 1048576: true; the input reads as it did. -/
def fnExactInverseUptoRow : OpenClaim := { program := "ytikmepdhpffdoaagreat", sum := "1a8eb1a0eed02b32f543fd776b27a31045c14ecd675f29c4597dd04f8305753c", func := "loop.example/g00830/laws.FnExactInverse", spec := "fnExactInverse", unfollowed := true, recurses := true, apart := false, narrowed := true }
def FnExactInverseUptoSaid : Prop := fnExactInverseUptoRow.holds Tryz.pinned (OpenSpec.upto fnExactInverseSpec)

/-- 'laws.FnExactCheckResult', WHERE WHAT IT READS IS OF BULK AT MOST 1048576: true; the input reads as it did. -/
def fnExactCheckResultUptoRow : OpenClaim := { program := "ytikmepdhpffdoaagreat", sum := "1a8eb1a0eed02b32f543fd776b27a31045c14ecd675f29c4597dd04f8305753c", func := "loop.example/g00830/laws.FnExactCheckResult", spec := "fnExactCheckResult", unfollowed := true, recurses := true, apart := false, narrowed := true }
def FnExactCheckResultUptoSaid : Prop := fnExactCheckResultUptoRow.holds Tryz.pinned (OpenSpec.upto fnExactCheckResultSpec)

/-- 'laws.FnExactNullVectors', WHERE WHAT IT READS IS OF BULK AT MOST 1048576: true; the input reads as it did. -/
def fnExactNullVectorsUptoRow : OpenClaim := { program := "ytikmepdhpffdoaagreat", sum := "1a8eb1a0eed02b32f543fd776b27a31045c14ecd675f29c4597dd04f8305753c", func := "loop.example/g00830/laws.FnExactNullVectors", spec := "fnExactNullVectors", unfollowed := true, recurses := true, apart := false, narrowed := true }
def FnExactNullVectorsUptoSaid : Prop := fnExactNullVectorsUptoRow.holds Tryz.pinned (OpenSpec.upto fnExactNullVectorsSpec)

end Rows
end Go.Proofs.YtikmepdhpffdoaaGreat
