/- part of the proof -/
import Derived.Test.YtikmepdhpffdoaaGreatTKa
import Derived.Test.YtikmepdhpffdoaaGreatTGr
import Derived.Test.YtikmepdhpffdoaaGreatTLa4
namespace Go.Proofs.YtikmepdhpffdoaaGreat
open Go Go.RowKit
set_option maxRecDepth 100000
set_option maxHeartbeats 4000000
set_option linter.unusedVariables false
set_option linter.unusedSimpArgs false
theorem okl_small {l : List RD} (h : ∀ r ∈ l, r.ok = true) (hl : l.length ≤ 1000) : smallL l ∧ szL l ≤ 100000 := by
  have e : l = (l.map rdq).map qd := by
    rw [List.map_map]
    conv => lhs; rw [← List.map_id l]
    exact List.map_congr_left fun r hr => (qd_rdq (h r hr)).symm
  have q := qdl_small (l := l.map rdq) (by rw [List.length_map]; exact hl)
  rw [← e] at q
  exact q
end Go.Proofs.YtikmepdhpffdoaaGreat
