/- part of the proof -/
import Derived.Test.YtgkimfncegbeaaaTDa
import Derived.Test.YtgkimfncegbeaaaTXs
import Derived.Test.YtgkimfncegbeaaaTKb
import Derived.Test.YtgkimfncegbeaaaTXc
import Derived.Test.YtgkimfncegbeaaaTXo
import Derived.Test.YtgkimfncegbeaaaTXt
import Derived.Test.YtgkimfncegbeaaaTXf
namespace Go.Proofs.Ytgkimfncegbeaaa
open Go Go.RowKit
set_option maxRecDepth 100000
set_option maxHeartbeats 4000000
set_option linter.unusedVariables false
set_option linter.unusedSimpArgs false
theorem vs_share (p : List FQ × Bool) : RtG 0 (vsH p) (vsG p) (vsS p) [] := RtG.share 0 (cs' := rsC .s (p.1.map qd)) rfl lW leL_us lW (RtG.nothing [] trivial (by decide) lW (.tup _ _ _ _ _ (.cons _ _ _ _ _ _ [] [] (Rn.rslR rfl (by rw [List.length_map])) (.cons _ _ _ _ _ _ [] [] (.same _ _ _ trivial (fun _ => trivial)) (.nil _ _)))))
theorem impl_ApplyMatrix_c (m : MD) (l : List RD) (hs : smallL m.cells) (hl : smallL l) : PC PP F_impl_ApplyMatrix [mtV .s m, sR .s l] (vsS (applyQ m l)) [] := ((impl_ApplyMatrix_g m .s .s fls fls l hs hl).conv (vs_share _)).pc
end Go.Proofs.Ytgkimfncegbeaaa
