/- part of the proof -/
import Derived.Test.YtchlpclgkhggeaaVKa
import Derived.Test.YtchlpclgkhggeaaVGa
namespace Go.Proofs.Ytchlpclgkhggeaa
open Go Go.RowKit
set_option maxRecDepth 100000
set_option linter.unusedVariables false
set_option linter.unusedSimpArgs false
def apzS (P : Program) (t tn : TypeId) (vs vx : V) (H : List Ob) (K : V → List Ob → Prop) (_ : Tr K) : Prop:=appZ P t tn vs vx H K
@[congr] theorem Y2j {P : Program} {t tn : TypeId} {vs vs' vx vx' : V} {H H' : List Ob} {K : V → List Ob → Prop} {d : Tr K} (h1 : vs = vs') (h2 : vx = vx') (h3 : H = H') : apzS P t tn vs vx H K d = apzS P t tn vs' vx' H' K d:=by rw [h1,h2,h3]
end Go.Proofs.Ytchlpclgkhggeaa