/- The law FnExactSameResults, proved as its row states it: for all arguments the call returns true and leaves them as they were. -/
import Derived.Test.YtekhgkpnhenecaaLq
import Derived.Test.YtekhgkpnhenecaaRg
import Derived.Test.YtekhgkpnhenecaaRows
namespace Go.Proofs.Ytekhgkpnhenecaa
open Go Go.RowKit Go.ChangeShapes Go.WideShapes Go.ChangeAt
set_option maxRecDepth 100000
set_option linter.unusedVariables false

theorem fnExactSameResults_args {av : List V} (h : RdA PP Try.f5.params.toList av) : PC PP F_laws_FnExactSameResults av (Bo true) [] := by
  have e : Try.f5.params.toList = [T_laws_Result, T_laws_Result] := rfl
  rw [e] at h
  cases h; rename_i v0 vs0 g0 h
  cases h; rename_i v1 vs1 g1 h
  cases h
  obtain ⟨q0, rfl, b0⟩ := rdv_result g0
  obtain ⟨q1, rfl, b1⟩ := rdv_result g1
  exact FnExactSameResults_c .b (by simp) q0 q1 b0 b1

theorem fnExactSameResults_lifted (os : Os) (started : os.Started) (H : Type) (enc : TypeId × Value → H) :
    ReturnsInHanded {} Try.checked os F_laws_FnExactSameResults .any (Rows.fnExactSameResultsSpec.pre6 enc Try.prog Try.f5 Rows.fnExactSameResultsRow.domain false) (Rows.fnExactSameResultsSpec.post enc Try.prog Try.f5 false true false false) := by
  refine returnsInHanded_of_change (C := Try.checked) ownKnobP started (by kernel_rfl) Try.func5
    (ChangeSpec.witness6 (enc := enc) (C := Try.checked) false ⟨#[], #[.agg #[.int .i64 0, .slice none 0 0, .bool false, .slice none 0 0, .slice none 0 0], .agg #[.int .i64 0, .slice none 0 0, .bool false, .slice none 0 0, .slice none 0 0]], []⟩ 8 (by kernel_rfl) (by kernel_rfl) (by kernel_rfl) (by kernel_rfl)) ?_
  intro W base args ds gs before hval hW _ _
  have e : Try.f5.params.toList = [T_laws_Result, T_laws_Result] := rfl
  have hin : ∀ t ∈ Try.f5.params.toList, t = T_laws_Result ∨ t = T_laws_Result := by intro t ht; rw [e] at ht; simpa using ht
  exact law_calls (n := 8) (tb := T_bool) laidOutP (by intro t ht; rcases hin t ht with rfl | rfl <;> exact ⟨by kernel_rfl, of_decide_eq_true (by kernel_rfl)⟩)
    (by intro t ht; rcases hin t ht with rfl | rfl <;> first | (show plainT PP 8 T_laws_Result = true; kernel_rfl)) rfl u_bool rfl
    (by intro ds hd; match ds, hd with | [d0, d1], _ => rfl) (fun av h => fnExactSameResults_args h) hval hW

theorem fnExactSameResults_holds : Rows.FnExactSameResultsSaid :=
  OpenClaim.holds_of_wide F_laws_FnExactSameResults Try.f5 rfl rfl rfl rfl rfl rfl rfl ⟨rfl, rfl, rfl, rfl, rfl⟩ rfl rfl rfl rfl rfl (by kernel_rfl) Try.func5 (by kernel_rfl)
    (of_decide_eq_true (by kernel_rfl)) (by unfold Func.isWrapper; first | (rw [if_pos (by decide +kernel)]; kernel_rfl) | (rw [if_neg (by decide +kernel)]; exact ⟨rfl, rfl⟩))
    (fun os started H enc _ => fnExactSameResults_lifted os started H enc)
end Go.Proofs.Ytekhgkpnhenecaa
