/- part of the proof -/
import Derived.Test.YtchlpclgkhggeaaGreatTXh
import Derived.Test.YtchlpclgkhggeaaGreatTJa
import Derived.Test.YtchlpclgkhggeaaGreatTHb
import Derived.Test.YtchlpclgkhggeaaGreatTAz
namespace Go.Proofs.YtchlpclgkhggeaaGreat
open Go Go.RowKit
set_option maxRecDepth 100000
set_option maxHeartbeats 4000000
set_option linter.unusedVariables false
set_option linter.unusedSimpArgs false
def Prg.zero : Prg := ⟨0, 0, [], [], []⟩
end Go.Proofs.YtchlpclgkhggeaaGreat