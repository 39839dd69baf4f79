/- part of the proof -/
import Derived.Test.YtikmepdhpffdoaaGreatTXn
namespace Go.Proofs.YtikmepdhpffdoaaGreat
open Go Go.RowKit
set_option maxRecDepth 100000
set_option maxHeartbeats 4000000
set_option linter.unusedVariables false
set_option linter.unusedSimpArgs false
theorem gridL_congr {n c : Nat} {A B : Nat → Nat → FQ} (h : ∀ i j, i < n → j < c → A i j = B i j) : gridL n c A = gridL n c B := by
  refine gridL_ext gridL_length fun i k hi hk => ?_
  rw [gridL_getD hi hk]; exact h i k hi hk
end Go.Proofs.YtikmepdhpffdoaaGreat
