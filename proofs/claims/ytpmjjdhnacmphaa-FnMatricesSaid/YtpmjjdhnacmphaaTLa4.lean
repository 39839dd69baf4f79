/- part of the proof -/
import Derived.Test.YtpmjjdhnacmphaaTJa
import Derived.Test.YtpmjjdhnacmphaaTGr
namespace Go.Proofs.Ytpmjjdhnacmphaa
open Go Go.RowKit
set_option maxRecDepth 100000
set_option maxHeartbeats 4000000
set_option linter.unusedVariables false
set_option linter.unusedSimpArgs false
theorem vokR_len {l : List RD} (h : vokR l = true) : l.length ≤ 24 := by unfold vokR at h; simp at h; exact h.1
end Go.Proofs.Ytpmjjdhnacmphaa
