/- part of the proof -/
import Derived.Test.YtikmepdhpffdoaaGreatTXq
namespace Go.Proofs.YtikmepdhpffdoaaGreat
open Go Go.RowKit
set_option maxRecDepth 100000
set_option maxHeartbeats 4000000
set_option linter.unusedVariables false
set_option linter.unusedSimpArgs false
theorem cells_at {m : MD} {r c : Nat} (hg : m.Good r c) : (gridL r c (m.at c)).map qd = m.cells := by
  obtain ⟨l, h1, h2, h3⟩ := all_list hg.all
  have hl : l.length = r * c := by rw [← hg.len, h1, List.length_map]
  have := gridL_ext (n := r) (c := c) (M := m.at c) hl fun i k hi hk => by
    have := ix_lt hi hk
    show _ = rdq _
    rw [← h2, getD_map_rdq (by show i * c + k < _; rw [hg.len]; exact this)]
  rw [← this, ← h1]
end Go.Proofs.YtikmepdhpffdoaaGreat
