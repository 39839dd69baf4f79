/- part of the proof -/
import Derived.Test.YtpmjjdhnacmphaaTHb
namespace Go.Proofs.Ytpmjjdhnacmphaa
open Go Go.RowKit
set_option maxRecDepth 100000
set_option linter.unusedVariables false
set_option linter.unusedSimpArgs false
end Go.Proofs.Ytpmjjdhnacmphaa
namespace Go.Proofs.Ytpmjjdhnacmphaa
open Go Go.RowKit
set_option maxRecDepth 100000
set_option linter.unusedVariables false
set_option linter.unusedSimpArgs false
theorem Rn.rslI {H : List Ob} {js : List (Option Nat)} {bk : Bool} {id k : Nat} {ty : TypeId} {l : List Int} (h : H[id]? = some ⟨.frz, ty, iC l⟩) (hk : k ≤ l.length) : Rn H js bk (.rsl id 1 0 k) (sI .s (l.take k)) [] := by
  have := Rn.rslz (H := H) js bk id 1 0 k ⟨.frz, ty, iC l⟩ h rfl (by simp [iC_length]; exact hk) (by
    intro c hc
    exact cl_iC c (List.mem_of_mem_drop (List.mem_of_mem_take hc)))
  simp only [Nat.zero_mul, List.drop_zero, Nat.mul_one, iC_take] at this
  unfold sI
  rw [List.length_take, Nat.min_eq_left hk]
  exact this
end Go.Proofs.Ytpmjjdhnacmphaa
namespace Go.Proofs.Ytpmjjdhnacmphaa
open Go Go.RowKit
set_option maxRecDepth 100000
set_option linter.unusedVariables false
set_option linter.unusedSimpArgs false
end Go.Proofs.Ytpmjjdhnacmphaa
namespace Go.Proofs.Ytpmjjdhnacmphaa
open Go Go.RowKit
set_option maxRecDepth 100000
set_option maxHeartbeats 1600000
set_option linter.unusedVariables false
set_option linter.unusedSimpArgs false
end Go.Proofs.Ytpmjjdhnacmphaa
namespace Go.Proofs.Ytpmjjdhnacmphaa
open Go Go.RowKit
set_option maxRecDepth 100000
set_option maxHeartbeats 1600000
set_option linter.unusedVariables false
set_option linter.unusedSimpArgs false
end Go.Proofs.Ytpmjjdhnacmphaa
