/- part of the proof -/
import Derived.Test.YtchlpclgkhggeaaVUs
namespace Go.Proofs.Ytchlpclgkhggeaa
open Go Go.RowKit
set_option maxRecDepth 100000
set_option maxHeartbeats 4000000
set_option linter.unusedVariables false
set_option linter.unusedSimpArgs false
theorem X9z {r : Nat} (hr : r ≤ 3) : bnd 100 r ≤ 2 ^ 27:=Nat.le_trans (X4W (by decide) hr) (by decide +kernel)
theorem Y0G {x y : FQ} {r s : Rat} {k l : Nat} (h : FV x r k) (g : FV y s l) (e : r ≤ s) : x.cmp y ≤ 0:=by
 rcases Q0j r s with q | q
 ·have:=(h.cmp_lt g).2 q; omega
 ·have:=(h.cmp_eq g).2 (by grind); omega
def LP.op (p : LP) : LP:=⟨p.m,p.n,p.A,p.b,fun j=>-p.c j⟩
end Go.Proofs.Ytchlpclgkhggeaa