/- part of the proof -/
import Derived.Test.YtpmjjdhnacmphaaTXq
namespace Go.Proofs.Ytpmjjdhnacmphaa
open Go Go.RowKit
set_option maxRecDepth 100000
set_option maxHeartbeats 4000000
set_option linter.unusedVariables false
set_option linter.unusedSimpArgs false
theorem mo_share (p : MD × Bool) : RtG 0 (mtH p.1) (moG p) (moS p) [] := RtG.share 0 (cs' := rsC .s p.1.cells) rfl lW leL_us lW (RtG.nothing [] trivial (by decide) lW (.tup _ _ _ _ _ (.cons _ _ _ _ _ _ [] [] (.agg _ _ _ _ _ (.cons _ _ _ _ _ _ [] [] (.same _ _ _ trivial (fun _ => trivial)) (.cons _ _ _ _ _ _ [] [] (.same _ _ _ trivial (fun _ => trivial)) (.cons _ _ _ _ _ _ [] [] (Rn.rslR rfl rfl) (.nil _ _))))) (.cons _ _ _ _ _ _ [] [] (.same _ _ _ trivial (fun _ => trivial)) (.nil _ _)))))
end Go.Proofs.Ytpmjjdhnacmphaa
