/-
  No cell of these rows narrows 'for every input' (looked for: loops, veiled, ifaces, maps, wideKeys, modest, calm, conditions, laid).
  DERIVED. THE GIVEN ROWS OF THIS SEAT. 4 by the template 'for every input the law returns true; each argument reads behind the call as it read before'; 0 by the template 'total and deterministic' (their statements: YtchlpclgkhggeaaGreatTotals.lean).
  GIVEN WITH THE SEED: the statements are not yours to turn. If you find one false, say at which input.
  Laid BY PROGRAM, IN A SANDBOX (cutbox-rows.mjs): the forced cells as the released guide's own fill.sh prints them over the translation b004046e820ae08d… (all of the seat's roots in one cut). By AI agents, Wed Nov 11 2026. No macro, syntax, notation, axiom, sorry.
-/
import Derived.Test.YtchlpclgkhggeaaGreatChecked
import GoSem.Claim
import GoSem.ClaimJoined
import GoSem.ClaimMapViews
import Derived.JoinedTies
import Derived.KernelRfl
namespace Go.Proofs.YtchlpclgkhggeaaGreat
/- THE CELL 'sum', in the pinned program and in every row, IS THE sha256 OF THE DUMP (.gsa) THAT YtchlpclgkhggeaaGreatProg.lean LOADS. Nothing in Lean hashes anything: it is a label: what it is worth is what the hold of that sum in a sandbox is worth. -/
noncomputable def Tryz.pinned : Pinned := { name := "ytchlpclgkhggeaagreat", sum := "b004046e820ae08d1dd3f59d9c2b95333207bb57843b2224634647469954a96d", checked := Tryz.checked }
namespace Rows
def none {H : Type} : Left H := { results := [], args := [] }

/-- 'laws.FnExactSolveProgram': WHATEVER THE INPUT: true; the input reads as it did. -/
def fnExactSolveProgramSpec : ChangeSpec := { name := "fnExactSolveProgram", fn := fun _ => fun
  | [d] => { results := [.lit (.bool true)], args := [d] }
  | _ => none }
def fnExactSolveProgramRow : OpenClaim := { program := "ytchlpclgkhggeaagreat", sum := "b004046e820ae08d1dd3f59d9c2b95333207bb57843b2224634647469954a96d", func := "loop.example/g00830/laws.FnExactSolveProgram", spec := "fnExactSolveProgram", unfollowed := true, recurses := true, apart := false }
def FnExactSolveProgramSaid : Prop := fnExactSolveProgramRow.holds Tryz.pinned (OpenSpec.ofChange fnExactSolveProgramSpec)

/-- ITS FALSE NEIGHBOUR: 'it returns false'. Refute it at one input. -/
def fnExactSolveProgramWrong : ChangeSpec := { name := "fnExactSolveProgram", fn := fun _ => fun
  | [d] => { results := [.lit (.bool false)], args := [d] }
  | _ => none }
def FnExactSolveProgramWrongFalsely : Prop := fnExactSolveProgramRow.holds Tryz.pinned (OpenSpec.ofChange fnExactSolveProgramWrong)

/-- 'laws.FnExactLeastOf': WHATEVER THE INPUT: true; the input reads as it did. -/
def fnExactLeastOfSpec : ChangeSpec := { name := "fnExactLeastOf", fn := fun _ => fun
  | [d] => { results := [.lit (.bool true)], args := [d] }
  | _ => none }
def fnExactLeastOfRow : OpenClaim := { program := "ytchlpclgkhggeaagreat", sum := "b004046e820ae08d1dd3f59d9c2b95333207bb57843b2224634647469954a96d", func := "loop.example/g00830/laws.FnExactLeastOf", spec := "fnExactLeastOf", unfollowed := true, recurses := true, apart := false }
def FnExactLeastOfSaid : Prop := fnExactLeastOfRow.holds Tryz.pinned (OpenSpec.ofChange fnExactLeastOfSpec)

/-- ITS FALSE NEIGHBOUR: 'it returns false'. Refute it at one input. -/
def fnExactLeastOfWrong : ChangeSpec := { name := "fnExactLeastOf", fn := fun _ => fun
  | [d] => { results := [.lit (.bool false)], args := [d] }
  | _ => none }
def FnExactLeastOfWrongFalsely : Prop := fnExactLeastOfRow.holds Tryz.pinned (OpenSpec.ofChange fnExactLeastOfWrong)

/-- 'laws.FnExactDualOf': WHATEVER THE INPUT: true; the input reads as it did. -/
def fnExactDualOfSpec : ChangeSpec := { name := "fnExactDualOf", fn := fun _ => fun
  | [d] => { results := [.lit (.bool true)], args := [d] }
  | _ => none }
def fnExactDualOfRow : OpenClaim := { program := "ytchlpclgkhggeaagreat", sum := "b004046e820ae08d1dd3f59d9c2b95333207bb57843b2224634647469954a96d", func := "loop.example/g00830/laws.FnExactDualOf", spec := "fnExactDualOf", unfollowed := true, recurses := true, apart := false }
def FnExactDualOfSaid : Prop := fnExactDualOfRow.holds Tryz.pinned (OpenSpec.ofChange fnExactDualOfSpec)

/-- ITS FALSE NEIGHBOUR: 'it returns false'. Refute it at one input. -/
def fnExactDualOfWrong : ChangeSpec := { name := "fnExactDualOf", fn := fun _ => fun
  | [d] => { results := [.lit (.bool false)], args := [d] }
  | _ => none }
def FnExactDualOfWrongFalsely : Prop := fnExactDualOfRow.holds Tryz.pinned (OpenSpec.ofChange fnExactDualOfWrong)

/-- 'laws.FnExactFarkasOf': WHATEVER THE INPUT: true; the input reads as it did. -/
def fnExactFarkasOfSpec : ChangeSpec := { name := "fnExactFarkasOf", fn := fun _ => fun
  | [d] => { results := [.lit (.bool true)], args := [d] }
  | _ => none }
def fnExactFarkasOfRow : OpenClaim := { program := "ytchlpclgkhggeaagreat", sum := "b004046e820ae08d1dd3f59d9c2b95333207bb57843b2224634647469954a96d", func := "loop.example/g00830/laws.FnExactFarkasOf", spec := "fnExactFarkasOf", unfollowed := true, recurses := true, apart := false }
def FnExactFarkasOfSaid : Prop := fnExactFarkasOfRow.holds Tryz.pinned (OpenSpec.ofChange fnExactFarkasOfSpec)

/-- ITS FALSE NEIGHBOUR: 'it returns false'. Refute it at one input. -/
def fnExactFarkasOfWrong : ChangeSpec := { name := "fnExactFarkasOf", fn := fun _ => fun
  | [d] => { results := [.lit (.bool false)], args := [d] }
  | _ => none }
def FnExactFarkasOfWrongFalsely : Prop := fnExactFarkasOfRow.holds Tryz.pinned (OpenSpec.ofChange fnExactFarkasOfWrong)

/- THE SECOND FORM. 'bulk': how many values and letters a reading holds, each counted each time it is reached (what is shared counts as often as it is met; a slice's spare places count too). A statement '..UptoSaid' is the law's where the arguments, and the package variables that the reading takes, are together of bulk at most 1048576: NARROWER than '..Said'. Prove '..Said' where nothing that the law and all that it calls make is longer than what came in: it says more and counts as full. Else prove '..UptoSaid'. A law counts once. -/
mutual
def uptoBulk {H : Type} : DataW H → Nat
  | .lit (.string bytes) => bytes.length + 1
  | .lit _ => 1
  | .nil => 1
  | .ptr d => uptoBulk d + 1
  | .slice elems spare => uptoBulkAll elems + uptoBulkAll spare + 1
  | .agg parts => uptoBulkAll parts + 1
  | .iface _ d => uptoBulk d + 1
  | .map entries => uptoBulkEntries entries + 1
  | .held _ => 1
def uptoBulkAll {H : Type} : List (DataW H) → Nat
  | [] => 0
  | d :: r => uptoBulk d + uptoBulkAll r
def uptoBulkEntries {H : Type} : List (Lit × DataW H) → Nat
  | [] => 0
  | x :: r => uptoBulkEntry x + uptoBulkEntries r
def uptoBulkEntry {H : Type} : Lit × DataW H → Nat
  | (.string bytes, d) => bytes.length + uptoBulk d + 1
  | (_, d) => uptoBulk d + 1
 end
def uptoSmall : (H : Type) → List (DataW H) → Bool := fun _ ds => decide (uptoBulkAll ds ≤ 1048576)
def OpenSpec.upto (s : _root_.Go.ChangeSpec) : _root_.Go.OpenSpec := { _root_.Go.OpenSpec.ofChange s with cond := some uptoSmall }

/-- 'laws.FnExactSolveProgram', WHERE WHAT IT READS IS OF BULK AT MOST 1048576: true; the input reads as it did. -/
def fnExactSolveProgramUptoRow : OpenClaim := { program := "ytchlpclgkhggeaagreat", sum := "b004046e820ae08d1dd3f59d9c2b95333207bb57843b2224634647469954a96d", func := "loop.example/g00830/laws.FnExactSolveProgram", spec := "fnExactSolveProgram", unfollowed := true, recurses := true, apart := false, narrowed := true }
def FnExactSolveProgramUptoSaid : Prop := fnExactSolveProgramUptoRow.holds Tryz.pinned (OpenSpec.upto fnExactSolveProgramSpec)

/-- 'laws.FnExactLeastOf', WHERE WHAT IT READS IS OF BULK AT MOST 1048576: true; the input reads as it did. -/
def fnExactLeastOfUptoRow : OpenClaim := { program := "ytchlpclgkhggeaagreat", sum := "b004046e820ae08d1dd3f59d9c2b95333207bb57843b2224634647469954a96d", func := "loop.example/g00830/laws.FnExactLeastOf", spec := "fnExactLeastOf", unfollowed := true, recurses := true, apart := false, narrowed := true }
def FnExactLeastOfUptoSaid : Prop := fnExactLeastOfUptoRow.holds Tryz.pinned (OpenSpec.upto fnExactLeastOfSpec)

/-- 'laws.FnExactDualOf', WHERE WHAT IT READS IS OF BULK AT MOST 1048576: true; the input reads as it did. -/
def fnExactDualOfUptoRow : OpenClaim := { program := "ytchlpclgkhggeaagreat", sum := "b004046e820ae08d1dd3f59d9c2b95333207bb57843b2224634647469954a96d", func := "loop.example/g00830/laws.FnExactDualOf", spec := "fnExactDualOf", unfollowed := true, recurses := true, apart := false, narrowed := true }
def FnExactDualOfUptoSaid : Prop := fnExactDualOfUptoRow.holds Tryz.pinned (OpenSpec.upto fnExactDualOfSpec)

/-- 'laws.FnExactFarkasOf', WHERE WHAT IT READS IS OF BULK AT MOST 1048576: true; the input reads as it did. -/
def fnExactFarkasOfUptoRow : OpenClaim := { program := "ytchlpclgkhggeaagreat", sum := "b004046e820ae08d1dd3f59d9c2b95333207bb57843b2224634647469954a96d", func := "loop.example/g00830/laws.FnExactFarkasOf", spec := "fnExactFarkasOf", unfollowed := true, recurses := true, apart := false, narrowed := true }
def FnExactFarkasOfUptoSaid : Prop := fnExactFarkasOfUptoRow.holds Tryz.pinned (OpenSpec.upto fnExactFarkasOfSpec)

end Rows
end Go.Proofs.YtchlpclgkhggeaaGreat
