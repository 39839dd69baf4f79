/- part of the proof -/
import Derived.Test.YtchlpclgkhggeaaTLd4
import Derived.Test.YtchlpclgkhggeaaTSg
import Derived.Test.YtchlpclgkhggeaaRows
import Derived.Test.YtchlpclgkhggeaaTJf
namespace Go.Proofs.Ytchlpclgkhggeaa
open Go Go.RowKit Go.ChangeShapes Go.WideShapes Go.ChangeAt
set_option maxRecDepth 100000
set_option maxHeartbeats 4000000
set_option linter.unusedVariables false
theorem fnExactHasSolution_args {av : List V} (h : RdA PP Try.f3.params.toList av) : PC PP F_laws_FnExactHasSolution av (Bo true) [] := by
  have e : Try.f3.params.toList = [T_laws_Program] := rfl
  rw [e] at h
  cases h; rename_i v0 vs0 g0 h
  cases h
  obtain ⟨p0, rfl, a0, b0, c0⟩ := rd_program (t := T_laws_Program) (by kernel_rfl) g0
  exact FnExactHasSolution_c .b (by simp) p0 a0 b0 c0
theorem fnExactHasSolution_lifted (os : Os) (started : os.Started) (H : Type) (enc : TypeId × Value → H) :
    ReturnsInHanded {} Try.checked os F_laws_FnExactHasSolution .any (Rows.fnExactHasSolutionSpec.pre6 enc Try.prog Try.f3 Rows.fnExactHasSolutionRow.domain false) (Rows.fnExactHasSolutionSpec.post enc Try.prog Try.f3 false true false false) := by
  refine returnsInHanded_of_change (C := Try.checked) ownKnobP started (by kernel_rfl) Try.func3
    (ChangeSpec.witness6 (enc := enc) (C := Try.checked) false ⟨#[], #[.agg #[.int .i64 0, .int .i64 0, .slice none 0 0, .slice none 0 0, .slice none 0 0]], []⟩ 8 (by kernel_rfl) (by kernel_rfl) (by kernel_rfl) (by kernel_rfl)) ?_
  intro W base args ds gs before hval hW _ _
  have e : Try.f3.params.toList = [T_laws_Program] := rfl
  have hin : ∀ t ∈ Try.f3.params.toList, t = T_laws_Program := by intro t ht; rw [e] at ht; simpa using ht
  exact law_calls (n := 8) (tb := T_bool) laidOutP (by intro t ht; rcases hin t ht with rfl <;> exact ⟨by kernel_rfl, of_decide_eq_true (by kernel_rfl)⟩)
    (by intro t ht; rcases hin t ht with rfl <;> first | (show plainT PP 8 T_laws_Program = true; kernel_rfl)) rfl u_bool rfl
    (by intro ds hd; match ds, hd with | [d0], _ => rfl) (fun av h => fnExactHasSolution_args h) hval hW
theorem fnExactHasSolution_jf : joinedFacts Try.prog F_laws_FnExactHasSolution Try.f3 Rows.fnExactHasSolutionSpec Rows.fnExactHasSolutionRow = true := by
  unfold joinedFacts
  repeat' (with_reducible refine band ?_ ?_)
  rotate_left 25
  exact pMay
  (as_aux_lemma => unfold Program.liftsFinal Program.headLifts; rw [ini_of (s := Try.prog.initOrder) rfl]; kernel_rfl)
  (as_aux_lemma => rw [pMake]; kernel_rfl)
  all_goals (as_aux_lemma => kernel_rfl)
theorem fnExactHasSolution_holds : Rows.FnExactHasSolutionSaid :=
  OpenClaim.holds_of_wide F_laws_FnExactHasSolution Try.f3 rfl rfl rfl rfl rfl rfl rfl ⟨rfl, rfl, rfl, rfl, rfl⟩ rfl rfl rfl rfl rfl (by as_aux_lemma => kernel_rfl) Try.func3 fnExactHasSolution_jf
    (of_decide_eq_true (by as_aux_lemma => kernel_rfl)) (by unfold Func.isWrapper; first | (rw [if_pos (by as_aux_lemma => decide +kernel)]; as_aux_lemma => kernel_rfl) | (rw [if_neg (by decide +kernel)]; exact ⟨rfl, rfl⟩))
    (fun os started H enc _ => fnExactHasSolution_lifted os started H enc)
end Go.Proofs.Ytchlpclgkhggeaa
