/- part of the proof -/
import Derived.Test.YtpmjjdhnacmphaaTDa
import Derived.Test.YtpmjjdhnacmphaaTXq
import Derived.Test.YtpmjjdhnacmphaaTKb
import Derived.Test.YtpmjjdhnacmphaaTKa
import Derived.Test.YtpmjjdhnacmphaaTGr
import Derived.Test.YtpmjjdhnacmphaaTJa
import Derived.Test.YtpmjjdhnacmphaaTXo
import Derived.Test.YtpmjjdhnacmphaaTXt
import Derived.Test.YtpmjjdhnacmphaaTXf
namespace Go.Proofs.Ytpmjjdhnacmphaa
open Go Go.RowKit
set_option maxRecDepth 100000
set_option maxHeartbeats 4000000
set_option linter.unusedVariables false
set_option linter.unusedSimpArgs false
theorem to_share (x : FQ) : RtG 0 (rH (qd x)) (toO x) (toS x) [] := by
  refine RtG.share 0 (cs' := iC (qd x).mag) rfl lW LeL.lits lW (RtG.share 1 (cs' := iC (qd x).den) rfl lW LeL.lits lW ?_)
  have e1 := Rn.rslI (H := ((rH (qd x)).set 0 ⟨.frz, T_int, iC (qd x).mag⟩).set 1 ⟨.frz, T_int, iC (qd x).den⟩) (js := []) (bk := false) (id := 0) (ty := T_int) (l := (qd x).mag) rfl (Nat.le_refl _)
  have e2 := Rn.rslI (H := ((rH (qd x)).set 0 ⟨.frz, T_int, iC (qd x).mag⟩).set 1 ⟨.frz, T_int, iC (qd x).den⟩) (js := []) (bk := false) (id := 1) (ty := T_int) (l := (qd x).den) rfl (Nat.le_refl _)
  rw [List.take_length] at e1 e2
  exact RtG.nothing [] trivial (by decide) lW (.tup _ _ _ _ _ (.cons _ _ _ _ _ _ [] [] (.agg _ _ _ _ _ (.cons _ _ _ _ _ _ [] [] (.same _ _ _ trivial (fun _ => trivial)) (.cons _ _ _ _ _ _ [] [] e1 (.cons _ _ _ _ _ _ [] [] e2 (.nil _ _))))) (.cons _ _ _ _ _ _ [] [] (.same _ _ _ trivial (fun _ => trivial)) (.nil _ _))))
end Go.Proofs.Ytpmjjdhnacmphaa
