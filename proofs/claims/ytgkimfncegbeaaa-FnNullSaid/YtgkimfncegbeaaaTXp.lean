/- part of the proof -/
import Derived.Test.YtgkimfncegbeaaaTXo
namespace Go.Proofs.Ytgkimfncegbeaaa
open Go Go.RowKit
set_option maxRecDepth 100000
set_option maxHeartbeats 4000000
set_option linter.unusedVariables false
set_option linter.unusedSimpArgs false
theorem gcs_get {n c i j : Nat} {N : Nat → Nat → FQ} (hi : i < n) (hj : j < c) : ((gridL n c N).map qd).getD (i * c + j) RD.zero = qd (N i j) := by
  rw [getD_map_qd (OM.mk (by rw [gridL_length]; exact ix_lt hi hj)), gridL_getD hi hj]
end Go.Proofs.Ytgkimfncegbeaaa
