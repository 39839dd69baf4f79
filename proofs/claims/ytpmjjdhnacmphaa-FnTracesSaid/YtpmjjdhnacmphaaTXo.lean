/- part of the proof -/
import Derived.Test.YtpmjjdhnacmphaaTXn
namespace Go.Proofs.Ytpmjjdhnacmphaa
open Go Go.RowKit
set_option maxRecDepth 100000
set_option maxHeartbeats 4000000
set_option linter.unusedVariables false
set_option linter.unusedSimpArgs false
theorem firstP_ex {M : Nat → Nat → FQ} {k n : Nat} : ∀ d used, n - used = d → used ≤ n → ∃ j, FirstP M k used n j
  | 0, used, h, hu => ⟨n, hu, Nat.le_refl _, fun i h1 h2 => by omega, fun h => by omega⟩
  | d + 1, used, h, hu => by
    by_cases hz : (M used k).num = 0
    · obtain ⟨j, h1, h2, h3, h4⟩ := firstP_ex (M := M) (k := k) (n := n) d (used + 1) (by omega) (by omega)
      refine ⟨j, by omega, h2, fun i h5 h6 => ?_, h4⟩
      by_cases e : i = used
      · rw [e]; exact hz
      · exact h3 i (by omega) h6
    · exact ⟨used, Nat.le_refl _, hu, fun i h1 h2 => by omega, fun _ => hz⟩
theorem firstR_spec {M : Nat → Nat → FQ} {k used n : Nat} (h : used ≤ n) : FirstP M k used n (firstR M k used n) := by
  obtain ⟨j, hj⟩ := firstP_ex (M := M) (k := k) (n := n) _ used rfl h
  rw [firstR_eq hj]; exact hj
theorem gridL_congr {n c : Nat} {A B : Nat → Nat → FQ} (h : ∀ i j, i < n → j < c → A i j = B i j) : gridL n c A = gridL n c B := by
  refine gridL_ext gridL_length fun i k hi hk => ?_
  rw [gridL_getD hi hk]; exact h i k hi hk
end Go.Proofs.Ytpmjjdhnacmphaa
