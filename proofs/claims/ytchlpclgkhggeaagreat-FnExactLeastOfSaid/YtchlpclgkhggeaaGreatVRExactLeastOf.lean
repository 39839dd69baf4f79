/- part of the proof -/
import Derived.Test.YtchlpclgkhggeaaGreatVLd5
import Derived.Test.YtchlpclgkhggeaaGreatVSg
import Derived.Test.YtchlpclgkhggeaaGreatRows
import Derived.Test.YtchlpclgkhggeaaGreatVJf
namespace Go.Proofs.YtchlpclgkhggeaaGreat
open Go Go.RowKit Go.ChangeShapes Go.WideShapes Go.ChangeAt
set_option maxRecDepth 100000
set_option maxHeartbeats 4000000
set_option linter.unusedVariables false
theorem X1y {av : List V} (h : RdA PP Tryz.f4.params.toList av) : PC PP Q0A av (Bo true) [] := by
  have e : Tryz.f4.params.toList = [Q1F] := rfl
  rw [e] at h
  cases h; rename_i v0 vs0 g0 h
  cases h
  obtain ⟨p0, rfl, a0, b0, c0, w0⟩ := Y2i (t := Q1F) (by kernel_rfl) g0
  exact X5J .b (by simp) p0 a0 b0 c0 w0
theorem Q8r (os : Os) (started : os.Started) (H : Type) (enc : TypeId × Value → H) :
    ReturnsInHanded {} Tryz.checked os Q0A .any (Rows.fnExactLeastOfSpec.pre6 enc Tryz.prog Tryz.f4 Rows.fnExactLeastOfRow.domain false) (Rows.fnExactLeastOfSpec.post enc Tryz.prog Tryz.f4 false true false false) := by
  refine returnsInHanded_of_change (C := Tryz.checked) ownKnobP started (by kernel_rfl) Tryz.func4
    (ChangeSpec.witness6 (enc := enc) (C := Tryz.checked) false ⟨#[], #[.agg #[.int .i64 0, .int .i64 0, .slice none 0 0, .slice none 0 0, .slice none 0 0]], []⟩ 8 (by kernel_rfl) (by kernel_rfl) (by kernel_rfl) (by kernel_rfl)) ?_
  intro W base args ds gs before hval hW _ _
  have e : Tryz.f4.params.toList = [Q1F] := rfl
  have hin : ∀ t ∈ Tryz.f4.params.toList, t = Q1F := by intro t ht; rw [e] at ht; simpa using ht
  exact Y6u (n := 8) (tb := X7D) laidOutP (by intro t ht; rcases hin t ht with rfl <;> exact ⟨by kernel_rfl, of_decide_eq_true (by kernel_rfl)⟩)
    (by intro t ht; rcases hin t ht with rfl <;> first | (show plainT PP 8 Q1F = true; kernel_rfl)) rfl Z2d rfl
    (by intro ds hd; match ds, hd with | [d0], _ => rfl) (fun av h => X1y h) hval hW
theorem X4j : joinedFacts Tryz.prog Q0A Tryz.f4 Rows.fnExactLeastOfSpec Rows.fnExactLeastOfRow = true := by
  unfold joinedFacts
  repeat' (with_reducible refine band ?_ ?_)
  rotate_left 25
  exact pMay
  (as_aux_lemma => unfold Program.liftsFinal Program.headLifts; rw [Y6D (s := Tryz.prog.initOrder) rfl]; kernel_rfl)
  (as_aux_lemma => rw [pMake]; kernel_rfl)
  all_goals (as_aux_lemma => kernel_rfl)
theorem fnExactLeastOf_holds : Rows.FnExactLeastOfSaid :=
  OpenClaim.holds_of_wide Q0A Tryz.f4 rfl rfl rfl rfl rfl rfl rfl ⟨rfl, rfl, rfl, rfl, rfl⟩ rfl rfl rfl rfl rfl (by as_aux_lemma => kernel_rfl) Tryz.func4 X4j
    (of_decide_eq_true (by as_aux_lemma => kernel_rfl)) (by unfold Func.isWrapper; first | (rw [if_pos (by as_aux_lemma => decide +kernel)]; as_aux_lemma => kernel_rfl) | (rw [if_neg (by decide +kernel)]; exact ⟨rfl, rfl⟩))
    (fun os started H enc _ => Q8r os started H enc)
end Go.Proofs.YtchlpclgkhggeaaGreat