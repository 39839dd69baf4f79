/- part of the proof -/
import Derived.Test.YtikmepdhpffdoaaGreatTXz
import Derived.Test.YtikmepdhpffdoaaGreatTLa6
namespace Go.Proofs.YtikmepdhpffdoaaGreat
open Go Go.RowKit
set_option maxRecDepth 100000
set_option maxHeartbeats 4000000
set_option linter.unusedVariables false
set_option linter.unusedSimpArgs false
theorem spec_Inverse_c (m : MD) (hs : smallL m.cells) : PC PP F_spec_Inverse [mtV .s m] (moS (invR m)) [] := by
  refine tx W_spec_Inverse ke_spec_Inverse [] (by kernel_rfl) ?_
  simp -dsimp(disch:=first|exact om|fail)only[go_sem,↓reduceIte,Nat.reduceEqDiff,Nat.reduceAdd,Nat.reduceSub,Nat.reduceMul,Nat.reduceLT,Nat.reduceLeDiff,reduceCtorEq,a_eq,a_neq,a_cast0,a_pred,a_app1,a_zero,Int.reduceToNat]
  refine callP (spec_MatrixOk_c m .s fls hs) lL ?_
  cases ho : m.ok
  · rw [invR_no (by rw [ho]; rfl)]
    unfold noM
    simp -dsimp(disch:=first|exact om|fail)only[go_sem,↓reduceIte,Nat.reduceEqDiff,Nat.reduceAdd,Nat.reduceSub,Nat.reduceMul,Nat.reduceLT,Nat.reduceLeDiff,reduceCtorEq,a_eq,a_neq,a_cast0,a_pred,a_app1,a_zero,Int.reduceToNat]
  · by_cases h : m.rows = m.cols
    · obtain ⟨r, c, hg⟩ := MD.ok_good ho
      obtain rfl : r = c := by have := hg.er; have := hg.ec; omega
      have hr := hg.er
      have hc := hg.ec
      by_cases h12 : r ≤ 12
      · rw [invR_ok ho hg h12]
        have q := l07Inverse_c m r hg hs
        generalize invN r (m.at r) = p at *
        obtain ⟨M, b⟩ := p
        simp -dsimp(disch:=first|exact om|fail)only[go_sem,↓reduceIte,Nat.reduceEqDiff,Nat.reduceAdd,Nat.reduceSub,Nat.reduceMul,Nat.reduceLT,Nat.reduceLeDiff,reduceCtorEq,a_eq,a_neq,a_cast0,a_pred,a_app1,a_zero,Int.reduceToNat, hr, hc]
        refine callP q (by simp -dsimp(disch:=first|exact om|fail)only[go_sem,↓reduceIte,Nat.reduceEqDiff,Nat.reduceAdd,Nat.reduceSub,Nat.reduceMul,Nat.reduceLT,Nat.reduceLeDiff,reduceCtorEq,a_eq,a_neq,a_cast0,a_pred,a_app1,a_zero,Int.reduceToNat, hr, hc]) ?_
        simp -dsimp(disch:=first|exact om|fail)only[go_sem,↓reduceIte,Nat.reduceEqDiff,Nat.reduceAdd,Nat.reduceSub,Nat.reduceMul,Nat.reduceLT,Nat.reduceLeDiff,reduceCtorEq,a_eq,a_neq,a_cast0,a_pred,a_app1,a_zero,Int.reduceToNat]
      · rw [invR_no (by rw [ho, decide_eq_false (show ¬ m.rows ≤ 12 by rw [hr]; omega), Bool.and_false])]
        unfold noM
        simp -dsimp(disch:=first|exact om|fail)only[go_sem,↓reduceIte,Nat.reduceEqDiff,Nat.reduceAdd,Nat.reduceSub,Nat.reduceMul,Nat.reduceLT,Nat.reduceLeDiff,reduceCtorEq,a_eq,a_neq,a_cast0,a_pred,a_app1,a_zero,Int.reduceToNat, hr, hc]
    · rw [invR_no (by rw [ho, decide_eq_false h]; rfl)]
      unfold noM
      simp -dsimp(disch:=first|exact om|fail)only[go_sem,↓reduceIte,Nat.reduceEqDiff,Nat.reduceAdd,Nat.reduceSub,Nat.reduceMul,Nat.reduceLT,Nat.reduceLeDiff,reduceCtorEq,a_eq,a_neq,a_cast0,a_pred,a_app1,a_zero,Int.reduceToNat, h]
theorem cloQ_small {r c : Nat} {M : Nat → Nat → FQ} (h : r * c ≤ 600) : smallL (cloQ r c M).1.cells ∧ szL (cloQ r c M).1.cells ≤ 100000 := by
  rw [cloQ_done]
  unfold doneM
  split
  · exact qdl_small (by rw [gridL_length]; omega)
  · exact okl_small (by simp [MD.zero]) (by simp [MD.zero])
theorem invR_small (m : MD) : smallL (invR m).1.cells ∧ szL (invR m).1.cells ≤ 100000 := by
  have z : smallL noM.1.cells ∧ szL noM.1.cells ≤ 100000 := okl_small (by simp [MD.zero]) (by simp [MD.zero])
  unfold invR
  split
  · rename_i h
    simp only [Bool.and_eq_true, decide_eq_true_eq] at h
    unfold invN
    split
    · refine cloQ_small ?_
      have h12 : m.rows.toNat ≤ 12 := by omega
      have := Nat.mul_le_mul h12 h12
      omega
    · exact z
  · exact z
end Go.Proofs.YtikmepdhpffdoaaGreat
