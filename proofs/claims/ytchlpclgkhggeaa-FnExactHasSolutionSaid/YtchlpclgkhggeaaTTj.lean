/- part of the proof -/
import Derived.Test.YtchlpclgkhggeaaTTh
namespace Go.Proofs.Ytchlpclgkhggeaa
open Go Go.RowKit
set_option maxRecDepth 100000
set_option maxHeartbeats 4000000
set_option linter.unusedVariables false
set_option linter.unusedSimpArgs false
def kp (c : Nat) (s : SP) : Nat → List Nat
  | 0 => []
  | i + 1 => if s.β i < c then kp c s i ++ [i] else kp c s i
end Go.Proofs.Ytchlpclgkhggeaa
