/- part of the proof -/
import Derived.Test.YtchlpclgkhggeaaTUs
namespace Go.Proofs.Ytchlpclgkhggeaa
open Go Go.RowKit
set_option maxRecDepth 100000
set_option maxHeartbeats 4000000
set_option linter.unusedVariables false
set_option linter.unusedSimpArgs false
theorem bnd_27 {r : Nat} (hr : r ≤ 3) : bnd 100 r ≤ 2 ^ 27 := Nat.le_trans (bnd_mono (by decide) hr) (by decide +kernel)
theorem bnd_54 {r : Nat} (hr : r ≤ 6) : bnd 100 r ≤ 2 ^ 54 := Nat.le_trans (bnd_mono (by decide) hr) (by decide +kernel)
def LP.op (p : LP) : LP := ⟨p.m, p.n, p.A, p.b, fun j => -p.c j⟩
end Go.Proofs.Ytchlpclgkhggeaa