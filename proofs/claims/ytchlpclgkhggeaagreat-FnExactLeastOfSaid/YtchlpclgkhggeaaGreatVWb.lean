/- part of the proof -/
import Derived.Test.YtchlpclgkhggeaaGreatVWa
import Derived.Test.YtchlpclgkhggeaaGreatVAz
namespace Go.Proofs.YtchlpclgkhggeaaGreat
open Go Go.RowKit
set_option maxRecDepth 100000
set_option maxHeartbeats 4000000
set_option linter.unusedVariables false
set_option linter.unusedSimpArgs false
def Prg.zero : Prg:=⟨0,0,[],[],[]⟩
def zerosL (n : Nat) : List Int:=List.replicate n 0
end Go.Proofs.YtchlpclgkhggeaaGreat