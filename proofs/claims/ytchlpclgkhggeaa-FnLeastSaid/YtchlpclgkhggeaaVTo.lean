/- part of the proof -/
import Derived.Test.YtchlpclgkhggeaaVTl
namespace Go.Proofs.Ytchlpclgkhggeaa
open Go Go.RowKit
set_option maxRecDepth 100000
set_option maxHeartbeats 4000000
set_option linter.unusedVariables false
set_option linter.unusedSimpArgs false
theorem FV.fit {x : FQ} {r : Rat} {k : Nat} (h : FV x r k) (hk : k ≤ 696) : x = FQ.fit r:=FQ.ext (by rw [h.v,Q7Z h.s hk])
noncomputable def lpR (p : Prg) : QD:=⟨(lpOf p.lp).1,(lpOf p.lp).2.1.map qd,qd (lpOf p.lp).2.2⟩
end Go.Proofs.Ytchlpclgkhggeaa