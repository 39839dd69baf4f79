/- part of the proof -/
import Derived.Test.YtchlpclgkhggeaaVUt
namespace Go.Proofs.Ytchlpclgkhggeaa
open Go Go.RowKit
set_option maxRecDepth 100000
set_option maxHeartbeats 4000000
set_option linter.unusedVariables false
set_option linter.unusedSimpArgs false
theorem PD.open' {p : Prg} {r c : Nat} (h : PD p r c) (hf : ∃ x,p.lp.Fx x) (hn : ¬ ∃ x,p.lp.Best x) : p.lp.Open:=by
 obtain ⟨K,t,a1,a2,a3,a4,a5,a6,a7⟩:=h.endI
 have hci:=CI.first (a5.fr fun k=>decide (k < c)) (a7 hf)
 obtain ⟨u',hu'⟩:=CI.run h r 0 r _ _ hci (by omega)
 have q:=SI.first h hu'
 obtain ⟨K2,t',b1,b2,b3,b4,b5⟩:=SI.max h q
 refine (b5 fun he=>hn ?_).2
 obtain ⟨s',t2,g⟩:=SI.up h c (b4 he)
 exact ⟨_,SI.best h g⟩
end Go.Proofs.Ytchlpclgkhggeaa