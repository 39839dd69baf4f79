/- part of the proof -/
import Derived.Test.YtchlpclgkhggeaaVTl
import Derived.Test.YtchlpclgkhggeaaVKa
import Derived.Test.YtchlpclgkhggeaaVHb
import Derived.Test.YtchlpclgkhggeaaVAz
namespace Go.Proofs.Ytchlpclgkhggeaa
open Go Go.RowKit
set_option maxRecDepth 100000
set_option maxHeartbeats 4000000
set_option linter.unusedVariables false
set_option linter.unusedSimpArgs false
def Prg.zero : Prg:=⟨0,0,[],[],[]⟩
end Go.Proofs.Ytchlpclgkhggeaa