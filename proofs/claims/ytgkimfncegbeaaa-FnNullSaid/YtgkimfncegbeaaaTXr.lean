/- part of the proof -/
import Derived.Test.YtgkimfncegbeaaaTXq
namespace Go.Proofs.Ytgkimfncegbeaaa
open Go Go.RowKit
set_option maxRecDepth 100000
set_option maxHeartbeats 4000000
set_option linter.unusedVariables false
set_option linter.unusedSimpArgs false
def noRd : MD × List Int × Bool := (MD.zero, [], false)
noncomputable def redQ (r c : Nat) (M : Nat → Nat → FQ) : MD × List Int × Bool := if allG (gridL r c (refTo r c M c).M) = true then (⟨r, c, (gridL r c (refTo r c M c).M).map qd⟩, (refTo r c M c).piv, true) else noRd
noncomputable def redR (m : MD) : MD × List Int × Bool := if m.ok = true then redQ m.rows.toNat m.cols.toNat (m.at m.cols.toNat) else noRd
theorem redR_ok {m : MD} {r c : Nat} (ho : m.ok = true) (hg : m.Good r c) : redR m = redQ r c (m.at c) := by
  unfold redR
  rw [if_pos ho, hg.er, hg.ec]; rfl
abbrev rdS (p : MD × List Int × Bool) : V := .tup [mtV .s p.1, sI .s p.2.1, Bo p.2.2]
end Go.Proofs.Ytgkimfncegbeaaa
