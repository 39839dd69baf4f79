/- part of the proof -/
import Derived.Test.YtchlpclgkhggeaaGreatTLd3
import Derived.Test.YtchlpclgkhggeaaGreatTSg
import Derived.Test.YtchlpclgkhggeaaGreatRows
import Derived.Test.YtchlpclgkhggeaaGreatTJf
namespace Go.Proofs.YtchlpclgkhggeaaGreat
open Go Go.RowKit Go.ChangeShapes Go.WideShapes Go.ChangeAt
set_option maxRecDepth 100000
set_option maxHeartbeats 4000000
set_option linter.unusedVariables false
theorem fnExactDualOf_args {av : List V} (h : RdA PP Tryz.f5.params.toList av) : PC PP Q0G av (Bo true) [] := by
  have e : Tryz.f5.params.toList = [Q1K] := rfl
  rw [e] at h
  cases h; rename_i v0 vs0 g0 h
  cases h
  obtain ⟨p0, rfl, a0, b0, c0⟩ := Y5x (t := Q1K) (by kernel_rfl) g0
  exact X8w .b (by simp) p0 a0 b0 c0
theorem fnExactDualOf_lifted (os : Os) (started : os.Started) (H : Type) (enc : TypeId × Value → H) :
    ReturnsInHanded {} Tryz.checked os Q0G .any (Rows.fnExactDualOfSpec.pre6 enc Tryz.prog Tryz.f5 Rows.fnExactDualOfRow.domain false) (Rows.fnExactDualOfSpec.post enc Tryz.prog Tryz.f5 false true false false) := by
  refine returnsInHanded_of_change (C := Tryz.checked) ownKnobP started (by kernel_rfl) Tryz.func5
    (ChangeSpec.witness6 (enc := enc) (C := Tryz.checked) false ⟨#[], #[.agg #[.int .i64 0, .int .i64 0, .slice none 0 0, .slice none 0 0, .slice none 0 0]], []⟩ 8 (by kernel_rfl) (by kernel_rfl) (by kernel_rfl) (by kernel_rfl)) ?_
  intro W base args ds gs before hval hW _ _
  have e : Tryz.f5.params.toList = [Q1K] := rfl
  have hin : ∀ t ∈ Tryz.f5.params.toList, t = Q1K := by intro t ht; rw [e] at ht; simpa using ht
  exact Y7F (n := 8) (tb := X8v) laidOutP (by intro t ht; rcases hin t ht with rfl <;> exact ⟨by kernel_rfl, of_decide_eq_true (by kernel_rfl)⟩)
    (by intro t ht; rcases hin t ht with rfl <;> first | (show plainT PP 8 Q1K = true; kernel_rfl)) rfl Z3J rfl
    (by intro ds hd; match ds, hd with | [d0], _ => rfl) (fun av h => fnExactDualOf_args h) hval hW
theorem fnExactDualOf_jf : joinedFacts Tryz.prog Q0G Tryz.f5 Rows.fnExactDualOfSpec Rows.fnExactDualOfRow = true := by
  unfold joinedFacts
  repeat' (with_reducible refine band ?_ ?_)
  rotate_left 25
  exact pMay
  (as_aux_lemma => unfold Program.liftsFinal Program.headLifts; rw [Y7S (s := Tryz.prog.initOrder) rfl]; kernel_rfl)
  (as_aux_lemma => rw [pMake]; kernel_rfl)
  all_goals (as_aux_lemma => kernel_rfl)
theorem fnExactDualOf_holds : Rows.FnExactDualOfSaid :=
  OpenClaim.holds_of_wide Q0G Tryz.f5 rfl rfl rfl rfl rfl rfl rfl ⟨rfl, rfl, rfl, rfl, rfl⟩ rfl rfl rfl rfl rfl (by as_aux_lemma => kernel_rfl) Tryz.func5 fnExactDualOf_jf
    (of_decide_eq_true (by as_aux_lemma => kernel_rfl)) (by unfold Func.isWrapper; first | (rw [if_pos (by as_aux_lemma => decide +kernel)]; as_aux_lemma => kernel_rfl) | (rw [if_neg (by decide +kernel)]; exact ⟨rfl, rfl⟩))
    (fun os started H enc _ => fnExactDualOf_lifted os started H enc)
end Go.Proofs.YtchlpclgkhggeaaGreat