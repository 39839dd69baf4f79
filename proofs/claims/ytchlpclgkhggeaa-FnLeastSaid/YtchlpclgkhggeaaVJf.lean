/- part of the proof -/
import Derived.Test.YtchlpclgkhggeaaRows
import Derived.JoinedOf
namespace Go.Proofs.Ytchlpclgkhggeaa
open Go
set_option maxRecDepth 100000
theorem X7b {s : String} {L : List Char} (h : s = String.ofList L) : s.toList = L := by rw [h, String.toList_ofList]
theorem band {a b : Bool} (h1 : a = true) (h2 : b = true) : (a && b) = true := by rw [h1, h2]; rfl
theorem pMay : Try.prog.mayEnter = true := by
  unfold Program.mayEnter
  rw [X7b (s := Try.prog.initOrder) rfl]
  kernel_rfl
theorem pMake : Try.prog.make = some .cut := by
  unfold Program.make
  rw [X7b (s := Try.prog.initOrder) rfl]
  kernel_rfl
end Go.Proofs.Ytchlpclgkhggeaa