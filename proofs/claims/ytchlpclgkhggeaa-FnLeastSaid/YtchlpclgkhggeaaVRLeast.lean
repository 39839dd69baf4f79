/- part of the proof -/
import Derived.Test.YtchlpclgkhggeaaVUz
import Derived.Test.YtchlpclgkhggeaaVKa
import Derived.Test.YtchlpclgkhggeaaRows
import Derived.Test.YtchlpclgkhggeaaVJf
namespace Go.Proofs.Ytchlpclgkhggeaa
open Go Go.RowKit Go.ChangeShapes Go.WideShapes Go.ChangeAt
set_option maxRecDepth 100000
set_option maxHeartbeats 4000000
set_option linter.unusedVariables false
theorem X3a {av : List V} (h : RdA PP Try.f4.params.toList av) : PC PP Q0I av (Bo true) [] := by
  have e : Try.f4.params.toList = [Q3e] := rfl
  rw [e] at h
  cases h; rename_i v0 vs0 g0 h
  cases h
  obtain ⟨l0, rfl, b0⟩ := X6l g0
  exact X7T .b (by simp) l0 b0
theorem X0N (os : Os) (started : os.Started) (H : Type) (enc : TypeId × Value → H) :
    ReturnsInHanded {} Try.checked os Q0I .any (Rows.fnLeastSpec.pre6 enc Try.prog Try.f4 Rows.fnLeastRow.domain false) (Rows.fnLeastSpec.post enc Try.prog Try.f4 false true false false) := by
  refine returnsInHanded_of_change (C := Try.checked) ownKnobP started (by kernel_rfl) Try.func4
    (ChangeSpec.witness6 (enc := enc) (C := Try.checked) false ⟨#[], #[.slice none 0 0], []⟩ 8 (by kernel_rfl) (by kernel_rfl) (by kernel_rfl) (by kernel_rfl)) ?_
  intro W base args ds gs before hval hW _ _
  have e : Try.f4.params.toList = [Q3e] := rfl
  have hin : ∀ t ∈ Try.f4.params.toList, t = Q3e := by intro t ht; rw [e] at ht; simpa using ht
  exact X6W (n := 8) (tb := X0G) laidOutP (by intro t ht; rcases hin t ht with rfl <;> exact ⟨by kernel_rfl, of_decide_eq_true (by kernel_rfl)⟩)
    (by intro t ht; rcases hin t ht with rfl <;> first | (show plainT PP 8 Q3e = true; kernel_rfl)) rfl Y2G rfl
    (by intro ds hd; match ds, hd with | [d0], _ => rfl) (fun av h => X3a h) hval hW
theorem X5t : joinedFacts Try.prog Q0I Try.f4 Rows.fnLeastSpec Rows.fnLeastRow = true := by
  unfold joinedFacts
  repeat' (with_reducible refine band ?_ ?_)
  rotate_left 25
  exact pMay
  (as_aux_lemma => unfold Program.liftsFinal Program.headLifts; rw [X7b (s := Try.prog.initOrder) rfl]; kernel_rfl)
  (as_aux_lemma => rw [pMake]; kernel_rfl)
  all_goals (as_aux_lemma => kernel_rfl)
theorem fnLeast_holds : Rows.FnLeastSaid :=
  OpenClaim.holds_of_wide Q0I Try.f4 rfl rfl rfl rfl rfl rfl rfl ⟨rfl, rfl, rfl, rfl, rfl⟩ rfl rfl rfl rfl rfl (by as_aux_lemma => kernel_rfl) Try.func4 X5t
    (of_decide_eq_true (by as_aux_lemma => kernel_rfl)) (by unfold Func.isWrapper; first | (rw [if_pos (by as_aux_lemma => decide +kernel)]; as_aux_lemma => kernel_rfl) | (rw [if_neg (by decide +kernel)]; exact ⟨rfl, rfl⟩))
    (fun os started H enc _ => X0N os started H enc)
end Go.Proofs.Ytchlpclgkhggeaa