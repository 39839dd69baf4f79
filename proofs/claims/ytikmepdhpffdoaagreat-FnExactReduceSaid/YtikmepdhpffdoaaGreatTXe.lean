/- part of the proof -/
import Derived.Test.YtikmepdhpffdoaaGreatTXd
namespace Go.Proofs.YtikmepdhpffdoaaGreat
open Go Go.RowKit
set_option maxRecDepth 100000
set_option maxHeartbeats 4000000
set_option linter.unusedVariables false
set_option linter.unusedSimpArgs false
theorem rtG_noM {H : List Ob} : RtG 0 H (.tup [.agg [I 0, I 0, .emp], Bo false]) (moG noM) (mtH noM.1) := RtG.ren [none] [[]] trivial (by decide) lW lW
end Go.Proofs.YtikmepdhpffdoaaGreat
