/- part of the proof -/
import Derived.Test.YtikmepdhpffdoaaGreatTRd
import Derived.Test.YtikmepdhpffdoaaGreatTXd
import Derived.Test.YtikmepdhpffdoaaGreatTKa
import Derived.Test.YtikmepdhpffdoaaGreatTXc
namespace Go.Proofs.YtikmepdhpffdoaaGreat
open Go Go.RowKit
set_option maxRecDepth 100000
set_option maxHeartbeats 4000000
set_option linter.unusedVariables false
set_option linter.unusedSimpArgs false
theorem tr_grid {m : MD} {r c : Nat} (hg : m.Good r c) : trM m = ⟨c, r, (gridL c r fun i j => m.at c j i).map qd⟩ := by
  rw [trM_ok (good_ok hg) hg, gridL_qd fun i k hi hk => (MD.at_ok hg hk hi).2]
end Go.Proofs.YtikmepdhpffdoaaGreat
