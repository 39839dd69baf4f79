/- part of the proof -/
import Derived.Test.YtikmepdhpffdoaaGreatTXq
namespace Go.Proofs.YtikmepdhpffdoaaGreat
open Go Go.RowKit
set_option maxRecDepth 100000
set_option maxHeartbeats 4000000
set_option linter.unusedVariables false
set_option linter.unusedSimpArgs false
theorem iC_tb {l : List Int} : V.tbL (iC l) = iC l := by
  induction l with
  | nil => rfl
  | cons a l ih =>
    show V.tb (I a) :: V.tbL (iC l) = I a :: iC l
    rw [ih]; rfl
theorem iC_only {l : List Int} : V.onlySL (iC l) := by
  induction l with
  | nil => trivial
  | cons a l ih => exact ⟨trivial, ih⟩
theorem mo_share (p : MD × Bool) : RtG 0 (mtH p.1) (moG p) (moS p) [] := RtG.share 0 (cs' := rsC .s p.1.cells) rfl lW leL_us lW (RtG.nothing [] trivial (by decide) lW (.tup _ _ _ _ _ (.cons _ _ _ _ _ _ [] [] (.agg _ _ _ _ _ (.cons _ _ _ _ _ _ [] [] (.same _ _ _ trivial (fun _ => trivial)) (.cons _ _ _ _ _ _ [] [] (.same _ _ _ trivial (fun _ => trivial)) (.cons _ _ _ _ _ _ [] [] (Rn.rslR rfl rfl) (.nil _ _))))) (.cons _ _ _ _ _ _ [] [] (.same _ _ _ trivial (fun _ => trivial)) (.nil _ _)))))
end Go.Proofs.YtikmepdhpffdoaaGreat
