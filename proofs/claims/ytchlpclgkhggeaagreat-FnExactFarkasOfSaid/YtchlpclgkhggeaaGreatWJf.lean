/- part of the proof -/
import Derived.Test.YtchlpclgkhggeaaGreatRows
import Derived.JoinedOf
namespace Go.Proofs.YtchlpclgkhggeaaGreat
open Go
set_option maxRecDepth 100000
theorem Y7Y {s : String} {L : List Char} (h : s = String.ofList L) : s.toList = L := by rw [h, String.toList_ofList]
theorem band {a b : Bool} (h1 : a = true) (h2 : b = true) : (a && b) = true := by rw [h1, h2]; rfl
theorem pMay : Tryz.prog.mayEnter = true := by
  unfold Program.mayEnter
  rw [Y7Y (s := Tryz.prog.initOrder) rfl]
  kernel_rfl
theorem pMake : Tryz.prog.make = some .cut := by
  unfold Program.make
  rw [Y7Y (s := Tryz.prog.initOrder) rfl]
  kernel_rfl
end Go.Proofs.YtchlpclgkhggeaaGreat