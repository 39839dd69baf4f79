/- part of the proof -/
import Derived.Test.YtgkimfncegbeaaaGreatTLc6
import Derived.Test.YtgkimfncegbeaaaGreatTGr
import Derived.Test.YtgkimfncegbeaaaGreatRows
import Derived.Test.YtgkimfncegbeaaaGreatTJf
namespace Go.Proofs.YtgkimfncegbeaaaGreat
open Go Go.RowKit Go.ChangeShapes Go.WideShapes Go.ChangeAt
set_option maxRecDepth 100000
set_option maxHeartbeats 4000000
set_option linter.unusedVariables false
theorem fnExactNullVectors_args {av : List V} (h : RdA PP Tryz.f3.params.toList av) : PC PP F_laws_FnExactNullVectors av (Bo true) [] := by
  have e : Tryz.f3.params.toList = [T_laws_Matrix] := rfl
  rw [e] at h
  cases h; rename_i v0 vs0 g0 h
  cases h
  obtain ⟨m0, rfl, b0⟩ := rdv_matrix g0
  exact FnExactNullVectors_c .b (by simp) m0 b0
theorem fnExactNullVectors_lifted (os : Os) (started : os.Started) (H : Type) (enc : TypeId × Value → H) :
    ReturnsInHanded {} Tryz.checked os F_laws_FnExactNullVectors .any (Rows.fnExactNullVectorsSpec.pre6 enc Tryz.prog Tryz.f3 Rows.fnExactNullVectorsRow.domain false) (Rows.fnExactNullVectorsSpec.post enc Tryz.prog Tryz.f3 false true false false) := by
  refine returnsInHanded_of_change (C := Tryz.checked) ownKnobP started (by kernel_rfl) Tryz.func3
    (ChangeSpec.witness6 (enc := enc) (C := Tryz.checked) false ⟨#[], #[.agg #[.int .i64 0, .int .i64 0, .slice none 0 0]], []⟩ 8 (by kernel_rfl) (by kernel_rfl) (by kernel_rfl) (by kernel_rfl)) ?_
  intro W base args ds gs before hval hW _ _
  have e : Tryz.f3.params.toList = [T_laws_Matrix] := rfl
  have hin : ∀ t ∈ Tryz.f3.params.toList, t = T_laws_Matrix := by intro t ht; rw [e] at ht; simpa using ht
  exact law_calls (n := 8) (tb := T_bool) laidOutP (by intro t ht; rcases hin t ht with rfl <;> exact ⟨by kernel_rfl, of_decide_eq_true (by kernel_rfl)⟩)
    (by intro t ht; rcases hin t ht with rfl <;> first | (show plainT PP 8 T_laws_Matrix = true; kernel_rfl)) rfl u_bool rfl
    (by intro ds hd; match ds, hd with | [d0], _ => rfl) (fun av h => fnExactNullVectors_args h) hval hW
theorem fnExactNullVectors_jf : joinedFacts Tryz.prog F_laws_FnExactNullVectors Tryz.f3 Rows.fnExactNullVectorsSpec Rows.fnExactNullVectorsRow = true := by
  unfold joinedFacts
  repeat' (with_reducible refine band ?_ ?_)
  rotate_left 25
  exact pMay
  (as_aux_lemma => unfold Program.liftsFinal Program.headLifts; rw [ini_of (s := Tryz.prog.initOrder) rfl]; kernel_rfl)
  (as_aux_lemma => rw [pMake]; kernel_rfl)
  all_goals (as_aux_lemma => kernel_rfl)
theorem fnExactNullVectors_holds : Rows.FnExactNullVectorsSaid :=
  OpenClaim.holds_of_wide F_laws_FnExactNullVectors Tryz.f3 rfl rfl rfl rfl rfl rfl rfl ⟨rfl, rfl, rfl, rfl, rfl⟩ rfl rfl rfl rfl rfl (by as_aux_lemma => kernel_rfl) Tryz.func3 fnExactNullVectors_jf
    (of_decide_eq_true (by as_aux_lemma => kernel_rfl)) (by unfold Func.isWrapper; first | (rw [if_pos (by as_aux_lemma => decide +kernel)]; as_aux_lemma => kernel_rfl) | (rw [if_neg (by decide +kernel)]; exact ⟨rfl, rfl⟩))
    (fun os started H enc _ => fnExactNullVectors_lifted os started H enc)
end Go.Proofs.YtgkimfncegbeaaaGreat
