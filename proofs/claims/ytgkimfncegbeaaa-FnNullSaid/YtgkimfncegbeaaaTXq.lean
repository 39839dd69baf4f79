/- part of the proof -/
import Derived.Test.YtgkimfncegbeaaaTXp
namespace Go.Proofs.Ytgkimfncegbeaaa
open Go Go.RowKit
set_option maxRecDepth 100000
set_option maxHeartbeats 4000000
set_option linter.unusedVariables false
set_option linter.unusedSimpArgs false
theorem Rn.rslR {H : List Ob} {js : List (Option Nat)} {bk : Bool} {id n : Nat} {ty : TypeId} {L : List RD} (h : H[id]? = some ⟨.frz, ty, rsC .s L⟩) (hn : L.length = n) : Rn H js bk (.rsl id 3 0 n) (sR .s L) [] := by
  subst hn
  have hd : ((rsC .s L).drop (0 * 3)).take (L.length * 3) = rsC .s L := by
    rw [Nat.zero_mul, List.drop_zero, List.take_of_length_le (by simp [rsC_length])]
  have := Rn.rslz (H := H) js bk id 3 0 L.length ⟨.frz, ty, rsC .s L⟩ h rfl (by simp [rsC_length]) (by
    show ∀ c ∈ ((rsC .s L).drop (0 * 3)).take (L.length * 3), c.cl
    rw [hd]; exact cl_rsC)
  dsimp only at this
  rw [hd] at this
  exact this
end Go.Proofs.Ytgkimfncegbeaaa
