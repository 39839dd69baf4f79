/- part of the proof -/
import Derived.Test.YtkllbcfhkhfniaaGreatTXc
import Derived.Test.YtkllbcfhkhfniaaGreatTKb
namespace Go.Proofs.YtkllbcfhkhfniaaGreat
open Go Go.RowKit
set_option maxRecDepth 100000
set_option maxHeartbeats 4000000
set_option linter.unusedVariables false
set_option linter.unusedSimpArgs false
def doneM (r c : Int) (l : List FQ) : MD × Bool := if allG l = true then (⟨r, c, l.map qd⟩, true) else (MD.zero, false)
theorem cloQ_done {n c : Nat} {M : Nat → Nat → FQ} : cloQ n c M = doneM n c (gridL n c M) := rfl
abbrev moS (p : MD × Bool) : V := .tup [mtV .s p.1, Bo p.2]
abbrev noM : MD × Bool := (MD.zero, false)
theorem l06Done_c (r c : Int) (l : List FQ) (hl : l.length ≤ 1048576) : PC PP F_spec_l06Done [mtV .s ⟨r, c, l.map qd⟩] (moS (doneM r c l)) [] := by
  refine tx W_spec_l06Done ke_spec_l06Done [] (by kernel_rfl) ?_
  simp -dsimp (disch := first | assumption | (refine OM.mk ?_; first | omega | (simp only [List.length_map, List.length_set, List.length_take] <;> omega)) | (simp -dsimp only [go_sem]; done) | fail) only [go_sem, ↓reduceIte, Nat.reduceEqDiff, Nat.reduceAdd, Nat.reduceSub, Nat.reduceMul, Nat.reduceLT, Nat.reduceLeDiff, reduceCtorEq, a_eq, a_neq, a_cast0, a_pred, a_app1, a_zero, Int.reduceToNat]
  refine callP (l05Fine_c .s fls l hl) (by simp -dsimp (disch := first | assumption | (simp -dsimp only [go_sem]; done) | fail) only [go_sem]) ?_
  unfold doneM
  cases h : allG l
  · rw [if_neg (by decide)]
    simp -dsimp (disch := first | assumption | (refine OM.mk ?_; first | omega | (simp only [List.length_map, List.length_set, List.length_take] <;> omega)) | (simp -dsimp only [go_sem]; done) | fail) only [go_sem, ↓reduceIte, Nat.reduceEqDiff, Nat.reduceAdd, Nat.reduceSub, Nat.reduceMul, Nat.reduceLT, Nat.reduceLeDiff, reduceCtorEq, a_eq, a_neq, a_cast0, a_pred, a_app1, a_zero, Int.reduceToNat]
  · rw [if_pos rfl]
    simp -dsimp (disch := first | assumption | (refine OM.mk ?_; first | omega | (simp only [List.length_map, List.length_set, List.length_take] <;> omega)) | (simp -dsimp only [go_sem]; done) | fail) only [go_sem, ↓reduceIte, Nat.reduceEqDiff, Nat.reduceAdd, Nat.reduceSub, Nat.reduceMul, Nat.reduceLT, Nat.reduceLeDiff, reduceCtorEq, a_eq, a_neq, a_cast0, a_pred, a_app1, a_zero, Int.reduceToNat]
end Go.Proofs.YtkllbcfhkhfniaaGreat
