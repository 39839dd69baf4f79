/- part of the proof -/
import Derived.Test.YtikmepdhpffdoaaGreatTXp
namespace Go.Proofs.YtikmepdhpffdoaaGreat
open Go Go.RowKit
set_option maxRecDepth 100000
set_option maxHeartbeats 4000000
set_option linter.unusedVariables false
set_option linter.unusedSimpArgs false
theorem le_ownSB {H : List Ob} {id n : Nat} {ty : TypeId} {L : List RD} (h : H[id]? = some ⟨.own, ty, rsC .s L⟩) (hl : L.length = n) : Le H .b (.rsl id 3 0 n) (sR .b L) := by
  subst hl
  have := Le.rsl (H := H) (f := .b) id 3 0 L.length ⟨.own, ty, rsC .s L⟩ (rsC .b L) h (.inl rfl) (by simp [rsC_length]) (by
    simp only [Nat.zero_mul, List.drop_zero]
    rw [List.take_of_length_le (by simp [rsC_length])]
    exact leL_rsC fun m => Le.slSB)
  exact this
end Go.Proofs.YtikmepdhpffdoaaGreat
