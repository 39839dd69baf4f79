/- part of the proof -/
import Derived.Test.YtgkimfncegbeaaaGreatTJa
import Derived.Test.YtgkimfncegbeaaaGreatTGr
namespace Go.Proofs.YtgkimfncegbeaaaGreat
open Go Go.RowKit
set_option maxRecDepth 100000
set_option maxHeartbeats 4000000
set_option linter.unusedVariables false
set_option linter.unusedSimpArgs false
attribute [go_sem] markS_length
end Go.Proofs.YtgkimfncegbeaaaGreat
