/- part of the proof -/
import Derived.Test.YtchlpclgkhggeaaTJa
import Derived.Test.YtchlpclgkhggeaaTSg
import Derived.Test.YtchlpclgkhggeaaTLa2
namespace Go.Proofs.Ytchlpclgkhggeaa
open Go Go.RowKit
set_option maxRecDepth 100000
set_option maxHeartbeats 4000000
set_option linter.unusedVariables false
set_option linter.unusedSimpArgs false
theorem inB_get {l : List Int} (h : inB (-100) 100 l = true) {i : Nat} (hi : i < l.length) : -100 ≤ l.getD i 0 ∧ l.getD i 0 ≤ 100 := by
  unfold inB at h
  rw [List.all_eq_true] at h
  rw [List.getD_eq_getElem?_getD, List.getElem?_eq_getElem hi, Option.getD_some]
  have := h _ (List.getElem_mem hi)
  simpa using this
def sml (l : List Int) : Prop := ∀ i, i < l.length → -100 ≤ l.getD i 0 ∧ l.getD i 0 ≤ 100
end Go.Proofs.Ytchlpclgkhggeaa
