/- part of the proof -/
import Derived.Test.YtchlpclgkhggeaaGreatWAz
namespace Go.Proofs.YtchlpclgkhggeaaGreat
open Go Go.RowKit
set_option maxRecDepth 100000
set_option maxHeartbeats 4000000
set_option linter.unusedVariables false
set_option linter.unusedSimpArgs false
def Prg.zero : Prg:=⟨0,0,[],[],[]⟩
@[go_sem] theorem Z9G : Prg.zero.rows = 0:=(rfl)
@[go_sem] theorem Z9H : Prg.zero.cols = 0:=(rfl)
@[go_sem] theorem pz_a : Prg.zero.a = []:=(rfl)
@[go_sem] theorem pz_b : Prg.zero.b = []:=(rfl)
@[go_sem] theorem pz_c : Prg.zero.c = []:=(rfl)
def zerosL (n : Nat) : List Int:=List.replicate n 0
theorem Y6o {l : List Int} (h : inB (-100) 100 l = true) {i : Nat} (hi : i < l.length) : -100 ≤ l.getD i 0 ∧ l.getD i 0 ≤ 100:=by
 have:=Y1t hi h
 simpa using this
end Go.Proofs.YtchlpclgkhggeaaGreat