/- part of the proof -/
import Derived.Test.YtikmepdhpffdoaaGreatTLb9
import Derived.Test.YtikmepdhpffdoaaGreatTGr
import Derived.Test.YtikmepdhpffdoaaGreatRows
import Derived.Test.YtikmepdhpffdoaaGreatTJf
namespace Go.Proofs.YtikmepdhpffdoaaGreat
open Go Go.RowKit Go.ChangeShapes Go.WideShapes Go.ChangeAt
set_option maxRecDepth 100000
set_option maxHeartbeats 4000000
set_option linter.unusedVariables false
theorem fnExactIsPositive_args {av : List V} (h : RdA PP Tryz.f6.params.toList av) : PC PP F_laws_FnExactIsPositive av (Bo true) [] := by
  have e : Tryz.f6.params.toList = [T_laws_Matrix] := rfl
  rw [e] at h
  cases h; rename_i v0 vs0 g0 h
  cases h
  obtain ⟨m0, rfl, b0⟩ := rdv_matrix g0
  exact FnExactIsPositive_c .b (by simp) m0 b0
theorem fnExactIsPositive_lifted (os : Os) (started : os.Started) (H : Type) (enc : TypeId × Value → H) :
    ReturnsInHanded {} Tryz.checked os F_laws_FnExactIsPositive .any (Rows.fnExactIsPositiveSpec.pre6 enc Tryz.prog Tryz.f6 Rows.fnExactIsPositiveRow.domain false) (Rows.fnExactIsPositiveSpec.post enc Tryz.prog Tryz.f6 false true false false) := by
  refine returnsInHanded_of_change (C := Tryz.checked) ownKnobP started (by kernel_rfl) Tryz.func6
    (ChangeSpec.witness6 (enc := enc) (C := Tryz.checked) false ⟨#[], #[.agg #[.int .i64 0, .int .i64 0, .slice none 0 0]], []⟩ 8 (by kernel_rfl) (by kernel_rfl) (by kernel_rfl) (by kernel_rfl)) ?_
  intro W base args ds gs before hval hW _ _
  have e : Tryz.f6.params.toList = [T_laws_Matrix] := rfl
  have hin : ∀ t ∈ Tryz.f6.params.toList, t = T_laws_Matrix := by intro t ht; rw [e] at ht; simpa using ht
  exact law_calls (n := 8) (tb := T_bool) laidOutP (by intro t ht; rcases hin t ht with rfl <;> exact ⟨by kernel_rfl, of_decide_eq_true (by kernel_rfl)⟩)
    (by intro t ht; rcases hin t ht with rfl <;> first | (show plainT PP 8 T_laws_Matrix = true; kernel_rfl)) rfl u_bool rfl
    (by intro ds hd; match ds, hd with | [d0], _ => rfl) (fun av h => fnExactIsPositive_args h) hval hW
theorem fnExactIsPositive_jf : joinedFacts Tryz.prog F_laws_FnExactIsPositive Tryz.f6 Rows.fnExactIsPositiveSpec Rows.fnExactIsPositiveRow = true := by
  unfold joinedFacts
  repeat' (with_reducible refine band ?_ ?_)
  rotate_left 25
  exact pMay
  (as_aux_lemma => unfold Program.liftsFinal Program.headLifts; rw [ini_of (s := Tryz.prog.initOrder) rfl]; kernel_rfl)
  (as_aux_lemma => rw [pMake]; kernel_rfl)
  all_goals (as_aux_lemma => kernel_rfl)
theorem fnExactIsPositive_holds : Rows.FnExactIsPositiveSaid :=
  OpenClaim.holds_of_wide F_laws_FnExactIsPositive Tryz.f6 rfl rfl rfl rfl rfl rfl rfl ⟨rfl, rfl, rfl, rfl, rfl⟩ rfl rfl rfl rfl rfl (by as_aux_lemma => kernel_rfl) Tryz.func6 fnExactIsPositive_jf
    (of_decide_eq_true (by as_aux_lemma => kernel_rfl)) (by unfold Func.isWrapper; first | (rw [if_pos (by as_aux_lemma => decide +kernel)]; as_aux_lemma => kernel_rfl) | (rw [if_neg (by decide +kernel)]; exact ⟨rfl, rfl⟩))
    (fun os started H enc _ => fnExactIsPositive_lifted os started H enc)
end Go.Proofs.YtikmepdhpffdoaaGreat
