/-
  No cell of these rows narrows 'for every input' (looked for: loops, veiled, ifaces, maps, wideKeys, modest, calm, conditions, laid).
  DERIVED. THE GIVEN ROWS OF THIS SEAT. 12 by the template 'for every input the law returns true; each argument reads behind the call as it read before'; 0 by the template 'total and deterministic' (their statements: YtekhgkpnhenecaaTotals.lean).
  GIVEN WITH THE SEED: the statements are not yours to turn. If you find one false, say at which input.
  Laid BY PROGRAM, IN A SANDBOX (cutbox-rows.mjs): the forced cells as the released guide's own fill.sh prints them over the translation be5b6677d9620b2c… (all of the seat's roots in one cut). By AI agents, Wed Nov 11 2026. No macro, syntax, notation, axiom, sorry.
-/
import Derived.Test.YtekhgkpnhenecaaChecked
import GoSem.Claim
import GoSem.ClaimJoined
import GoSem.ClaimMapViews
import Derived.JoinedTies
import Derived.KernelRfl
namespace Go.Proofs.Ytekhgkpnhenecaa
/- THE CELL 'sum', in the pinned program and in every row, IS THE sha256 OF THE DUMP (.gsa) THAT YtekhgkpnhenecaaProg.lean LOADS. Nothing in Lean hashes anything: it is a label: what it is worth is what the hold of that sum in a sandbox is worth. -/
noncomputable def Try.pinned : Pinned := { name := "ytekhgkpnhenecaa", sum := "be5b6677d9620b2c5079a3df1163400547986d3b579ec84c2187509a24cb11aa", checked := Try.checked }
namespace Rows
def none {H : Type} : Left H := { results := [], args := [] }

/-- 'laws.FnExactProgramOk': WHATEVER THE INPUT: true; the input reads as it did. -/
def fnExactProgramOkSpec : ChangeSpec := { name := "fnExactProgramOk", fn := fun _ => fun
  | [d] => { results := [.lit (.bool true)], args := [d] }
  | _ => none }
def fnExactProgramOkRow : OpenClaim := { program := "ytekhgkpnhenecaa", sum := "be5b6677d9620b2c5079a3df1163400547986d3b579ec84c2187509a24cb11aa", func := "loop.example/g00830/laws.FnExactProgramOk", spec := "fnExactProgramOk", unfollowed := true, recurses := true, apart := false }
def FnExactProgramOkSaid : Prop := fnExactProgramOkRow.holds Try.pinned (OpenSpec.ofChange fnExactProgramOkSpec)

/-- ITS FALSE NEIGHBOUR: 'it returns false'. Refute it at one input. -/
def fnExactProgramOkWrong : ChangeSpec := { name := "fnExactProgramOk", fn := fun _ => fun
  | [d] => { results := [.lit (.bool false)], args := [d] }
  | _ => none }
def FnExactProgramOkWrongFalsely : Prop := fnExactProgramOkRow.holds Try.pinned (OpenSpec.ofChange fnExactProgramOkWrong)

/-- 'laws.FnExactColumnOf': WHATEVER THE INPUT: true; the input reads as it did. -/
def fnExactColumnOfSpec : ChangeSpec := { name := "fnExactColumnOf", fn := fun _ => fun
  | [d1, d2] => { results := [.lit (.bool true)], args := [d1, d2] }
  | _ => none }
def fnExactColumnOfRow : OpenClaim := { program := "ytekhgkpnhenecaa", sum := "be5b6677d9620b2c5079a3df1163400547986d3b579ec84c2187509a24cb11aa", func := "loop.example/g00830/laws.FnExactColumnOf", spec := "fnExactColumnOf", unfollowed := true, recurses := true, apart := false }
def FnExactColumnOfSaid : Prop := fnExactColumnOfRow.holds Try.pinned (OpenSpec.ofChange fnExactColumnOfSpec)

/-- ITS FALSE NEIGHBOUR: 'it returns false'. Refute it at one input. -/
def fnExactColumnOfWrong : ChangeSpec := { name := "fnExactColumnOf", fn := fun _ => fun
  | [d1, d2] => { results := [.lit (.bool false)], args := [d1, d2] }
  | _ => none }
def FnExactColumnOfWrongFalsely : Prop := fnExactColumnOfRow.holds Try.pinned (OpenSpec.ofChange fnExactColumnOfWrong)

/-- 'laws.FnExactSameResults': WHATEVER THE INPUT: true; the input reads as it did. -/
def fnExactSameResultsSpec : ChangeSpec := { name := "fnExactSameResults", fn := fun _ => fun
  | [d1, d2] => { results := [.lit (.bool true)], args := [d1, d2] }
  | _ => none }
def fnExactSameResultsRow : OpenClaim := { program := "ytekhgkpnhenecaa", sum := "be5b6677d9620b2c5079a3df1163400547986d3b579ec84c2187509a24cb11aa", func := "loop.example/g00830/laws.FnExactSameResults", spec := "fnExactSameResults", apart := false }
def FnExactSameResultsSaid : Prop := fnExactSameResultsRow.holds Try.pinned (OpenSpec.ofChange fnExactSameResultsSpec)

/-- ITS FALSE NEIGHBOUR: 'it returns false'. Refute it at one input. -/
def fnExactSameResultsWrong : ChangeSpec := { name := "fnExactSameResults", fn := fun _ => fun
  | [d1, d2] => { results := [.lit (.bool false)], args := [d1, d2] }
  | _ => none }
def FnExactSameResultsWrongFalsely : Prop := fnExactSameResultsRow.holds Try.pinned (OpenSpec.ofChange fnExactSameResultsWrong)

/-- 'laws.FnExactDualProgram': WHATEVER THE INPUT: true; the input reads as it did. -/
def fnExactDualProgramSpec : ChangeSpec := { name := "fnExactDualProgram", fn := fun _ => fun
  | [d] => { results := [.lit (.bool true)], args := [d] }
  | _ => none }
def fnExactDualProgramRow : OpenClaim := { program := "ytekhgkpnhenecaa", sum := "be5b6677d9620b2c5079a3df1163400547986d3b579ec84c2187509a24cb11aa", func := "loop.example/g00830/laws.FnExactDualProgram", spec := "fnExactDualProgram", unfollowed := true, recurses := true, apart := false }
def FnExactDualProgramSaid : Prop := fnExactDualProgramRow.holds Try.pinned (OpenSpec.ofChange fnExactDualProgramSpec)

/-- ITS FALSE NEIGHBOUR: 'it returns false'. Refute it at one input. -/
def fnExactDualProgramWrong : ChangeSpec := { name := "fnExactDualProgram", fn := fun _ => fun
  | [d] => { results := [.lit (.bool false)], args := [d] }
  | _ => none }
def FnExactDualProgramWrongFalsely : Prop := fnExactDualProgramRow.holds Try.pinned (OpenSpec.ofChange fnExactDualProgramWrong)

/-- 'laws.FnExactFarkasProgram': WHATEVER THE INPUT: true; the input reads as it did. -/
def fnExactFarkasProgramSpec : ChangeSpec := { name := "fnExactFarkasProgram", fn := fun _ => fun
  | [d] => { results := [.lit (.bool true)], args := [d] }
  | _ => none }
def fnExactFarkasProgramRow : OpenClaim := { program := "ytekhgkpnhenecaa", sum := "be5b6677d9620b2c5079a3df1163400547986d3b579ec84c2187509a24cb11aa", func := "loop.example/g00830/laws.FnExactFarkasProgram", spec := "fnExactFarkasProgram", unfollowed := true, recurses := true, apart := false }
def FnExactFarkasProgramSaid : Prop := fnExactFarkasProgramRow.holds Try.pinned (OpenSpec.ofChange fnExactFarkasProgramSpec)

/-- ITS FALSE NEIGHBOUR: 'it returns false'. Refute it at one input. -/
def fnExactFarkasProgramWrong : ChangeSpec := { name := "fnExactFarkasProgram", fn := fun _ => fun
  | [d] => { results := [.lit (.bool false)], args := [d] }
  | _ => none }
def FnExactFarkasProgramWrongFalsely : Prop := fnExactFarkasProgramRow.holds Try.pinned (OpenSpec.ofChange fnExactFarkasProgramWrong)

/-- 'laws.FnExactDiagonalOf': WHATEVER THE INPUT: true; the input reads as it did. -/
def fnExactDiagonalOfSpec : ChangeSpec := { name := "fnExactDiagonalOf", fn := fun _ => fun
  | [d] => { results := [.lit (.bool true)], args := [d] }
  | _ => none }
def fnExactDiagonalOfRow : OpenClaim := { program := "ytekhgkpnhenecaa", sum := "be5b6677d9620b2c5079a3df1163400547986d3b579ec84c2187509a24cb11aa", func := "loop.example/g00830/laws.FnExactDiagonalOf", spec := "fnExactDiagonalOf", unfollowed := true, recurses := true, apart := false }
def FnExactDiagonalOfSaid : Prop := fnExactDiagonalOfRow.holds Try.pinned (OpenSpec.ofChange fnExactDiagonalOfSpec)

/-- ITS FALSE NEIGHBOUR: 'it returns false'. Refute it at one input. -/
def fnExactDiagonalOfWrong : ChangeSpec := { name := "fnExactDiagonalOf", fn := fun _ => fun
  | [d] => { results := [.lit (.bool false)], args := [d] }
  | _ => none }
def FnExactDiagonalOfWrongFalsely : Prop := fnExactDiagonalOfRow.holds Try.pinned (OpenSpec.ofChange fnExactDiagonalOfWrong)

/-- 'laws.FnExactRatAdd': WHATEVER THE INPUT: true; the input reads as it did. -/
def fnExactRatAddSpec : ChangeSpec := { name := "fnExactRatAdd", fn := fun _ => fun
  | [d1, d2] => { results := [.lit (.bool true)], args := [d1, d2] }
  | _ => none }
def fnExactRatAddRow : OpenClaim := { program := "ytekhgkpnhenecaa", sum := "be5b6677d9620b2c5079a3df1163400547986d3b579ec84c2187509a24cb11aa", func := "loop.example/g00830/laws.FnExactRatAdd", spec := "fnExactRatAdd", unfollowed := true, recurses := true, apart := false }
def FnExactRatAddSaid : Prop := fnExactRatAddRow.holds Try.pinned (OpenSpec.ofChange fnExactRatAddSpec)

/-- ITS FALSE NEIGHBOUR: 'it returns false'. Refute it at one input. -/
def fnExactRatAddWrong : ChangeSpec := { name := "fnExactRatAdd", fn := fun _ => fun
  | [d1, d2] => { results := [.lit (.bool false)], args := [d1, d2] }
  | _ => none }
def FnExactRatAddWrongFalsely : Prop := fnExactRatAddRow.holds Try.pinned (OpenSpec.ofChange fnExactRatAddWrong)

/-- 'laws.FnExactRatSub': WHATEVER THE INPUT: true; the input reads as it did. -/
def fnExactRatSubSpec : ChangeSpec := { name := "fnExactRatSub", fn := fun _ => fun
  | [d1, d2] => { results := [.lit (.bool true)], args := [d1, d2] }
  | _ => none }
def fnExactRatSubRow : OpenClaim := { program := "ytekhgkpnhenecaa", sum := "be5b6677d9620b2c5079a3df1163400547986d3b579ec84c2187509a24cb11aa", func := "loop.example/g00830/laws.FnExactRatSub", spec := "fnExactRatSub", unfollowed := true, recurses := true, apart := false }
def FnExactRatSubSaid : Prop := fnExactRatSubRow.holds Try.pinned (OpenSpec.ofChange fnExactRatSubSpec)

/-- ITS FALSE NEIGHBOUR: 'it returns false'. Refute it at one input. -/
def fnExactRatSubWrong : ChangeSpec := { name := "fnExactRatSub", fn := fun _ => fun
  | [d1, d2] => { results := [.lit (.bool false)], args := [d1, d2] }
  | _ => none }
def FnExactRatSubWrongFalsely : Prop := fnExactRatSubRow.holds Try.pinned (OpenSpec.ofChange fnExactRatSubWrong)

/-- 'laws.FnExactTranspose': WHATEVER THE INPUT: true; the input reads as it did. -/
def fnExactTransposeSpec : ChangeSpec := { name := "fnExactTranspose", fn := fun _ => fun
  | [d] => { results := [.lit (.bool true)], args := [d] }
  | _ => none }
def fnExactTransposeRow : OpenClaim := { program := "ytekhgkpnhenecaa", sum := "be5b6677d9620b2c5079a3df1163400547986d3b579ec84c2187509a24cb11aa", func := "loop.example/g00830/laws.FnExactTranspose", spec := "fnExactTranspose", unfollowed := true, recurses := true, apart := false }
def FnExactTransposeSaid : Prop := fnExactTransposeRow.holds Try.pinned (OpenSpec.ofChange fnExactTransposeSpec)

/-- ITS FALSE NEIGHBOUR: 'it returns false'. Refute it at one input. -/
def fnExactTransposeWrong : ChangeSpec := { name := "fnExactTranspose", fn := fun _ => fun
  | [d] => { results := [.lit (.bool false)], args := [d] }
  | _ => none }
def FnExactTransposeWrongFalsely : Prop := fnExactTransposeRow.holds Try.pinned (OpenSpec.ofChange fnExactTransposeWrong)

/-- 'laws.FnExactIsSymmetric': WHATEVER THE INPUT: true; the input reads as it did. -/
def fnExactIsSymmetricSpec : ChangeSpec := { name := "fnExactIsSymmetric", fn := fun _ => fun
  | [d] => { results := [.lit (.bool true)], args := [d] }
  | _ => none }
def fnExactIsSymmetricRow : OpenClaim := { program := "ytekhgkpnhenecaa", sum := "be5b6677d9620b2c5079a3df1163400547986d3b579ec84c2187509a24cb11aa", func := "loop.example/g00830/laws.FnExactIsSymmetric", spec := "fnExactIsSymmetric", unfollowed := true, recurses := true, apart := false }
def FnExactIsSymmetricSaid : Prop := fnExactIsSymmetricRow.holds Try.pinned (OpenSpec.ofChange fnExactIsSymmetricSpec)

/-- ITS FALSE NEIGHBOUR: 'it returns false'. Refute it at one input. -/
def fnExactIsSymmetricWrong : ChangeSpec := { name := "fnExactIsSymmetric", fn := fun _ => fun
  | [d] => { results := [.lit (.bool false)], args := [d] }
  | _ => none }
def FnExactIsSymmetricWrongFalsely : Prop := fnExactIsSymmetricRow.holds Try.pinned (OpenSpec.ofChange fnExactIsSymmetricWrong)

/-- 'laws.FnExactScaleVector': WHATEVER THE INPUT: true; the input reads as it did. -/
def fnExactScaleVectorSpec : ChangeSpec := { name := "fnExactScaleVector", fn := fun _ => fun
  | [d1, d2] => { results := [.lit (.bool true)], args := [d1, d2] }
  | _ => none }
def fnExactScaleVectorRow : OpenClaim := { program := "ytekhgkpnhenecaa", sum := "be5b6677d9620b2c5079a3df1163400547986d3b579ec84c2187509a24cb11aa", func := "loop.example/g00830/laws.FnExactScaleVector", spec := "fnExactScaleVector", unfollowed := true, recurses := true, apart := false }
def FnExactScaleVectorSaid : Prop := fnExactScaleVectorRow.holds Try.pinned (OpenSpec.ofChange fnExactScaleVectorSpec)

/-- ITS FALSE NEIGHBOUR: 'it returns false'. Refute it at one input. -/
def fnExactScaleVectorWrong : ChangeSpec := { name := "fnExactScaleVector", fn := fun _ => fun
  | [d1, d2] => { results := [.lit (.bool false)], args := [d1, d2] }
  | _ => none }
def FnExactScaleVectorWrongFalsely : Prop := fnExactScaleVectorRow.holds Try.pinned (OpenSpec.ofChange fnExactScaleVectorWrong)

/-- 'laws.FnExactSubmatrix': WHATEVER THE INPUT: true; the input reads as it did. -/
def fnExactSubmatrixSpec : ChangeSpec := { name := "fnExactSubmatrix", fn := fun _ => fun
  | [d1, d2] => { results := [.lit (.bool true)], args := [d1, d2] }
  | _ => none }
def fnExactSubmatrixRow : OpenClaim := { program := "ytekhgkpnhenecaa", sum := "be5b6677d9620b2c5079a3df1163400547986d3b579ec84c2187509a24cb11aa", func := "loop.example/g00830/laws.FnExactSubmatrix", spec := "fnExactSubmatrix", unfollowed := true, recurses := true, apart := false }
def FnExactSubmatrixSaid : Prop := fnExactSubmatrixRow.holds Try.pinned (OpenSpec.ofChange fnExactSubmatrixSpec)

/-- ITS FALSE NEIGHBOUR: 'it returns false'. Refute it at one input. -/
def fnExactSubmatrixWrong : ChangeSpec := { name := "fnExactSubmatrix", fn := fun _ => fun
  | [d1, d2] => { results := [.lit (.bool false)], args := [d1, d2] }
  | _ => none }
def FnExactSubmatrixWrongFalsely : Prop := fnExactSubmatrixRow.holds Try.pinned (OpenSpec.ofChange fnExactSubmatrixWrong)

/- THE SECOND FORM. 'bulk': how many values and letters a reading holds, each counted each time it is reached (what is shared counts as often as it is met; a slice's spare places count too). A statement '..UptoSaid' is the law's where the arguments, and the package variables that the reading takes, are together of bulk at most 1048576: NARROWER than '..Said'. Prove '..Said' where nothing that the law and all that it calls make is longer than what came in: it says more and counts as full. Else prove '..UptoSaid'. A law counts once. -/
mutual
def uptoBulk {H : Type} : DataW H → Nat
  | .lit (.string bytes) => bytes.length + 1
  | .lit _ => 1
  | .nil => 1
  | .ptr d => uptoBulk d + 1
  | .slice elems spare => uptoBulkAll elems + uptoBulkAll spare + 1
  | .agg parts => uptoBulkAll parts + 1
  | .iface _ d => uptoBulk d + 1
  | .map entries => uptoBulkEntries entries + 1
  | .held _ => 1
def uptoBulkAll {H : Type} : List (DataW H) → Nat
  | [] => 0
  | d :: r => uptoBulk d + uptoBulkAll r
def uptoBulkEntries {H : Type} : List (Lit × DataW H) → Nat
  | [] => 0
  | x :: r => uptoBulkEntry x + uptoBulkEntries r
def uptoBulkEntry {H : Type} : Lit × DataW H → Nat
  | (.string bytes, d) => bytes.length + uptoBulk d + 1
  | (_, d) => uptoBulk d + 1
 end
def uptoSmall : (H : Type) → List (DataW H) → Bool := fun _ ds => decide (uptoBulkAll ds ≤ 1048576)
def OpenSpec.upto (s : _root_.Go.ChangeSpec) : _root_.Go.OpenSpec := { _root_.Go.OpenSpec.ofChange s with cond := some uptoSmall }

/-- 'laws.FnExactProgramOk', WHERE WHAT IT READS IS OF BULK AT MOST 1048576: true; the input reads as it did. -/
def fnExactProgramOkUptoRow : OpenClaim := { program := "ytekhgkpnhenecaa", sum := "be5b6677d9620b2c5079a3df1163400547986d3b579ec84c2187509a24cb11aa", func := "loop.example/g00830/laws.FnExactProgramOk", spec := "fnExactProgramOk", unfollowed := true, recurses := true, apart := false, narrowed := true }
def FnExactProgramOkUptoSaid : Prop := fnExactProgramOkUptoRow.holds Try.pinned (OpenSpec.upto fnExactProgramOkSpec)

/-- 'laws.FnExactColumnOf', WHERE WHAT IT READS IS OF BULK AT MOST 1048576: true; the input reads as it did. -/
def fnExactColumnOfUptoRow : OpenClaim := { program := "ytekhgkpnhenecaa", sum := "be5b6677d9620b2c5079a3df1163400547986d3b579ec84c2187509a24cb11aa", func := "loop.example/g00830/laws.FnExactColumnOf", spec := "fnExactColumnOf", unfollowed := true, recurses := true, apart := false, narrowed := true }
def FnExactColumnOfUptoSaid : Prop := fnExactColumnOfUptoRow.holds Try.pinned (OpenSpec.upto fnExactColumnOfSpec)

/-- 'laws.FnExactSameResults', WHERE WHAT IT READS IS OF BULK AT MOST 1048576: true; the input reads as it did. -/
def fnExactSameResultsUptoRow : OpenClaim := { program := "ytekhgkpnhenecaa", sum := "be5b6677d9620b2c5079a3df1163400547986d3b579ec84c2187509a24cb11aa", func := "loop.example/g00830/laws.FnExactSameResults", spec := "fnExactSameResults", apart := false, narrowed := true }
def FnExactSameResultsUptoSaid : Prop := fnExactSameResultsUptoRow.holds Try.pinned (OpenSpec.upto fnExactSameResultsSpec)

/-- 'laws.FnExactDualProgram', WHERE WHAT IT READS IS OF BULK AT MOST 1048576: true; the input reads as it did. -/
def fnExactDualProgramUptoRow : OpenClaim := { program := "ytekhgkpnhenecaa", sum := "be5b6677d9620b2c5079a3df1163400547986d3b579ec84c2187509a24cb11aa", func := "loop.example/g00830/laws.FnExactDualProgram", spec := "fnExactDualProgram", unfollowed := true, recurses := true, apart := false, narrowed := true }
def FnExactDualProgramUptoSaid : Prop := fnExactDualProgramUptoRow.holds Try.pinned (OpenSpec.upto fnExactDualProgramSpec)

/-- 'laws.FnExactFarkasProgram', WHERE WHAT IT READS IS OF BULK AT MOST 1048576: true; the input reads as it did. -/
def fnExactFarkasProgramUptoRow : OpenClaim := { program := "ytekhgkpnhenecaa", sum := "be5b6677d9620b2c5079a3df1163400547986d3b579ec84c2187509a24cb11aa", func := "loop.example/g00830/laws.FnExactFarkasProgram", spec := "fnExactFarkasProgram", unfollowed := true, recurses := true, apart := false, narrowed := true }
def FnExactFarkasProgramUptoSaid : Prop := fnExactFarkasProgramUptoRow.holds Try.pinned (OpenSpec.upto fnExactFarkasProgramSpec)

/-- 'laws.FnExactDiagonalOf', WHERE WHAT IT READS IS OF BULK AT MOST 1048576: true; the input reads as it did. -/
def fnExactDiagonalOfUptoRow : OpenClaim := { program := "ytekhgkpnhenecaa", sum := "be5b6677d9620b2c5079a3df1163400547986d3b579ec84c2187509a24cb11aa", func := "loop.example/g00830/laws.FnExactDiagonalOf", spec := "fnExactDiagonalOf", unfollowed := true, recurses := true, apart := false, narrowed := true }
def FnExactDiagonalOfUptoSaid : Prop := fnExactDiagonalOfUptoRow.holds Try.pinned (OpenSpec.upto fnExactDiagonalOfSpec)

/-- 'laws.FnExactRatAdd', WHERE WHAT IT READS IS OF BULK AT MOST 1048576: true; the input reads as it did. -/
def fnExactRatAddUptoRow : OpenClaim := { program := "ytekhgkpnhenecaa", sum := "be5b6677d9620b2c5079a3df1163400547986d3b579ec84c2187509a24cb11aa", func := "loop.example/g00830/laws.FnExactRatAdd", spec := "fnExactRatAdd", unfollowed := true, recurses := true, apart := false, narrowed := true }
def FnExactRatAddUptoSaid : Prop := fnExactRatAddUptoRow.holds Try.pinned (OpenSpec.upto fnExactRatAddSpec)

/-- 'laws.FnExactRatSub', WHERE WHAT IT READS IS OF BULK AT MOST 1048576: true; the input reads as it did. -/
def fnExactRatSubUptoRow : OpenClaim := { program := "ytekhgkpnhenecaa", sum := "be5b6677d9620b2c5079a3df1163400547986d3b579ec84c2187509a24cb11aa", func := "loop.example/g00830/laws.FnExactRatSub", spec := "fnExactRatSub", unfollowed := true, recurses := true, apart := false, narrowed := true }
def FnExactRatSubUptoSaid : Prop := fnExactRatSubUptoRow.holds Try.pinned (OpenSpec.upto fnExactRatSubSpec)

/-- 'laws.FnExactTranspose', WHERE WHAT IT READS IS OF BULK AT MOST 1048576: true; the input reads as it did. -/
def fnExactTransposeUptoRow : OpenClaim := { program := "ytekhgkpnhenecaa", sum := "be5b6677d9620b2c5079a3df1163400547986d3b579ec84c2187509a24cb11aa", func := "loop.example/g00830/laws.FnExactTranspose", spec := "fnExactTranspose", unfollowed := true, recurses := true, apart := false, narrowed := true }
def FnExactTransposeUptoSaid : Prop := fnExactTransposeUptoRow.holds Try.pinned (OpenSpec.upto fnExactTransposeSpec)

/-- 'laws.FnExactIsSymmetric', WHERE WHAT IT READS IS OF BULK AT MOST 1048576: true; the input reads as it did. -/
def fnExactIsSymmetricUptoRow : OpenClaim := { program := "ytekhgkpnhenecaa", sum := "be5b6677d9620b2c5079a3df1163400547986d3b579ec84c2187509a24cb11aa", func := "loop.example/g00830/laws.FnExactIsSymmetric", spec := "fnExactIsSymmetric", unfollowed := true, recurses := true, apart := false, narrowed := true }
def FnExactIsSymmetricUptoSaid : Prop := fnExactIsSymmetricUptoRow.holds Try.pinned (OpenSpec.upto fnExactIsSymmetricSpec)

/-- 'laws.FnExactScaleVector', WHERE WHAT IT READS IS OF BULK AT MOST 1048576: true; the input reads as it did. -/
def fnExactScaleVectorUptoRow : OpenClaim := { program := "ytekhgkpnhenecaa", sum := "be5b6677d9620b2c5079a3df1163400547986d3b579ec84c2187509a24cb11aa", func := "loop.example/g00830/laws.FnExactScaleVector", spec := "fnExactScaleVector", unfollowed := true, recurses := true, apart := false, narrowed := true }
def FnExactScaleVectorUptoSaid : Prop := fnExactScaleVectorUptoRow.holds Try.pinned (OpenSpec.upto fnExactScaleVectorSpec)

/-- 'laws.FnExactSubmatrix', WHERE WHAT IT READS IS OF BULK AT MOST 1048576: true; the input reads as it did. -/
def fnExactSubmatrixUptoRow : OpenClaim := { program := "ytekhgkpnhenecaa", sum := "be5b6677d9620b2c5079a3df1163400547986d3b579ec84c2187509a24cb11aa", func := "loop.example/g00830/laws.FnExactSubmatrix", spec := "fnExactSubmatrix", unfollowed := true, recurses := true, apart := false, narrowed := true }
def FnExactSubmatrixUptoSaid : Prop := fnExactSubmatrixUptoRow.holds Try.pinned (OpenSpec.upto fnExactSubmatrixSpec)

end Rows
end Go.Proofs.Ytekhgkpnhenecaa
