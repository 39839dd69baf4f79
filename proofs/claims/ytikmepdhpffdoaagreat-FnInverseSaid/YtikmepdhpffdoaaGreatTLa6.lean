/- part of the proof -/
import Derived.Test.YtikmepdhpffdoaaGreatTKb
import Derived.Test.YtikmepdhpffdoaaGreatTLa5
namespace Go.Proofs.YtikmepdhpffdoaaGreat
open Go Go.RowKit
set_option maxRecDepth 100000
set_option maxHeartbeats 4000000
set_option linter.unusedVariables false
set_option linter.unusedSimpArgs false
end Go.Proofs.YtikmepdhpffdoaaGreat
