/- part of the proof -/
import Derived.Test.YtchlpclgkhggeaaVTo
import Derived.Test.YtchlpclgkhggeaaVWb
namespace Go.Proofs.Ytchlpclgkhggeaa
open Go Go.RowKit
set_option maxRecDepth 100000
set_option maxHeartbeats 4000000
set_option linter.unusedVariables false
set_option linter.unusedSimpArgs false
noncomputable def solP (p : Prg) : QD:=if okP' p = true then lpR p else ⟨1,[],RD.zero⟩
end Go.Proofs.Ytchlpclgkhggeaa