/- part of the proof -/
import Derived.Test.YtikmepdhpffdoaaGreatTXz
import Derived.Test.YtikmepdhpffdoaaGreatTLa6
namespace Go.Proofs.YtikmepdhpffdoaaGreat
open Go Go.RowKit
set_option maxRecDepth 100000
set_option maxHeartbeats 4000000
set_option linter.unusedVariables false
set_option linter.unusedSimpArgs false
theorem cloQ_small {r c : Nat} {M : Nat → Nat → FQ} (h : r * c ≤ 600) : smallL (cloQ r c M).1.cells ∧ szL (cloQ r c M).1.cells ≤ 100000 := by
  rw [cloQ_done]
  unfold doneM
  split
  · exact qdl_small (by rw [gridL_length]; omega)
  · exact okl_small (by simp [MD.zero]) (by simp [MD.zero])
theorem invR_small (m : MD) : smallL (invR m).1.cells ∧ szL (invR m).1.cells ≤ 100000 := by
  have z : smallL noM.1.cells ∧ szL noM.1.cells ≤ 100000 := okl_small (by simp [MD.zero]) (by simp [MD.zero])
  unfold invR
  split
  · rename_i h
    simp only [Bool.and_eq_true, decide_eq_true_eq] at h
    unfold invN
    split
    · refine cloQ_small ?_
      have h12 : m.rows.toNat ≤ 12 := by omega
      have := Nat.mul_le_mul h12 h12
      omega
    · exact z
  · exact z
end Go.Proofs.YtikmepdhpffdoaaGreat
