/- part of the proof -/
import Derived.Test.YtikmepdhpffdoaaGreatTXr
namespace Go.Proofs.YtikmepdhpffdoaaGreat
open Go Go.RowKit
set_option maxRecDepth 100000
set_option maxHeartbeats 4000000
set_option linter.unusedVariables false
set_option linter.unusedSimpArgs false
theorem iC_tb {l : List Int} : V.tbL (iC l) = iC l := by
  induction l with
  | nil => rfl
  | cons a l ih =>
    show V.tb (I a) :: V.tbL (iC l) = I a :: iC l
    rw [ih]; rfl
theorem iC_only {l : List Int} : V.onlySL (iC l) := by
  induction l with
  | nil => trivial
  | cons a l ih => exact ⟨trivial, ih⟩
end Go.Proofs.YtikmepdhpffdoaaGreat
