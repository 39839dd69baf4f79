/- part of the proof -/
import Derived.Test.YtkllbcfhkhfniaaTXa
import Derived.Test.YtkllbcfhkhfniaaTJa
namespace Go.Proofs.Ytkllbcfhkhfniaa
open Go Go.RowKit
set_option maxRecDepth 100000
set_option maxHeartbeats 4000000
set_option linter.unusedVariables false
set_option linter.unusedSimpArgs false
def sumQ (g : Nat → FQ) : Nat → FQ
  | 0 => FQ.ofInt 0
  | n + 1 => (sumQ g n).add (g n)
abbrev toS (x : FQ) : V := .tup [rV .s (qd x), Bo x.good]
abbrev toO (x : FQ) : V := .tup [rO (qd x), Bo x.good]
theorem toS_bad : toS FQ.bad = .tup [rV .s RD.zero, Bo false] := by unfold toS; rw [qd_bad]; rfl
theorem toO_bad : toO FQ.bad = .tup [rO RD.zero, Bo false] := by unfold toO; rw [qd_bad]; rfl
end Go.Proofs.Ytkllbcfhkhfniaa
