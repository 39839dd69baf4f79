/- part of the proof -/
import Derived.Test.YtchlpclgkhggeaaTUy
import Derived.Test.YtchlpclgkhggeaaTDu
import Derived.Test.YtchlpclgkhggeaaRows
import Derived.Test.YtchlpclgkhggeaaTJf
namespace Go.Proofs.Ytchlpclgkhggeaa
open Go Go.RowKit Go.ChangeShapes Go.WideShapes Go.ChangeAt
set_option maxRecDepth 100000
set_option maxHeartbeats 4000000
set_option linter.unusedVariables false
theorem fnWeakDuality_args {av : List V} (h : RdA PP Try.f7.params.toList av) : PC PP Q0s av (Bo true) [] := by
  have e : Try.f7.params.toList = [Q3T] := rfl
  rw [e] at h
  cases h; rename_i v0 vs0 g0 h
  cases h
  obtain ⟨l0, rfl, b0⟩ := Y1V g0
  exact X5b .b (by simp) l0 b0
theorem fnWeakDuality_lifted (os : Os) (started : os.Started) (H : Type) (enc : TypeId × Value → H) :
    ReturnsInHanded {} Try.checked os Q0s .any (Rows.fnWeakDualitySpec.pre6 enc Try.prog Try.f7 Rows.fnWeakDualityRow.domain false) (Rows.fnWeakDualitySpec.post enc Try.prog Try.f7 false true false false) := by
  refine returnsInHanded_of_change (C := Try.checked) ownKnobP started (by kernel_rfl) Try.func7
    (ChangeSpec.witness6 (enc := enc) (C := Try.checked) false ⟨#[], #[.slice none 0 0], []⟩ 8 (by kernel_rfl) (by kernel_rfl) (by kernel_rfl) (by kernel_rfl)) ?_
  intro W base args ds gs before hval hW _ _
  have e : Try.f7.params.toList = [Q3T] := rfl
  have hin : ∀ t ∈ Try.f7.params.toList, t = Q3T := by intro t ht; rw [e] at ht; simpa using ht
  exact Y2I (n := 8) (tb := X4Z) laidOutP (by intro t ht; rcases hin t ht with rfl <;> exact ⟨by kernel_rfl, of_decide_eq_true (by kernel_rfl)⟩)
    (by intro t ht; rcases hin t ht with rfl <;> first | (show plainT PP 8 Q3T = true; kernel_rfl)) rfl Y9d rfl
    (by intro ds hd; match ds, hd with | [d0], _ => rfl) (fun av h => fnWeakDuality_args h) hval hW
theorem fnWeakDuality_jf : joinedFacts Try.prog Q0s Try.f7 Rows.fnWeakDualitySpec Rows.fnWeakDualityRow = true := by
  unfold joinedFacts
  repeat' (with_reducible refine band ?_ ?_)
  rotate_left 25
  exact pMay
  (as_aux_lemma => unfold Program.liftsFinal Program.headLifts; rw [Y2P (s := Try.prog.initOrder) rfl]; kernel_rfl)
  (as_aux_lemma => rw [pMake]; kernel_rfl)
  all_goals (as_aux_lemma => kernel_rfl)
theorem fnWeakDuality_holds : Rows.FnWeakDualitySaid :=
  OpenClaim.holds_of_wide Q0s Try.f7 rfl rfl rfl rfl rfl rfl rfl ⟨rfl, rfl, rfl, rfl, rfl⟩ rfl rfl rfl rfl rfl (by as_aux_lemma => kernel_rfl) Try.func7 fnWeakDuality_jf
    (of_decide_eq_true (by as_aux_lemma => kernel_rfl)) (by unfold Func.isWrapper; first | (rw [if_pos (by as_aux_lemma => decide +kernel)]; as_aux_lemma => kernel_rfl) | (rw [if_neg (by decide +kernel)]; exact ⟨rfl, rfl⟩))
    (fun os started H enc _ => fnWeakDuality_lifted os started H enc)
end Go.Proofs.Ytchlpclgkhggeaa