/- part of the proof -/
import Derived.Test.YtekhgkpnhenecaaTLa6
import Derived.Test.YtekhgkpnhenecaaTGr
import Derived.Test.YtekhgkpnhenecaaRows
namespace Go.Proofs.Ytekhgkpnhenecaa
open Go Go.RowKit Go.ChangeShapes Go.WideShapes Go.ChangeAt
set_option maxRecDepth 100000
set_option linter.unusedVariables false
theorem fnExactIsSymmetric_args {av : List V} (h : RdA PP Try.f12.params.toList av) : PC PP F_laws_FnExactIsSymmetric av (Bo true) [] := by
  have e : Try.f12.params.toList = [T_laws_Matrix] := rfl
  rw [e] at h
  cases h; rename_i v0 vs0 g0 h
  cases h
  obtain ⟨m0, rfl, b0⟩ := rdv_matrix g0
  exact FnExactIsSymmetric_c .b (by simp) m0 b0
theorem fnExactIsSymmetric_lifted (os : Os) (started : os.Started) (H : Type) (enc : TypeId × Value → H) :
    ReturnsInHanded {} Try.checked os F_laws_FnExactIsSymmetric .any (Rows.fnExactIsSymmetricSpec.pre6 enc Try.prog Try.f12 Rows.fnExactIsSymmetricRow.domain false) (Rows.fnExactIsSymmetricSpec.post enc Try.prog Try.f12 false true false false) := by
  refine returnsInHanded_of_change (C := Try.checked) ownKnobP started (by kernel_rfl) Try.func12
    (ChangeSpec.witness6 (enc := enc) (C := Try.checked) false ⟨#[], #[.agg #[.int .i64 0, .int .i64 0, .slice none 0 0]], []⟩ 8 (by kernel_rfl) (by kernel_rfl) (by kernel_rfl) (by kernel_rfl)) ?_
  intro W base args ds gs before hval hW _ _
  have e : Try.f12.params.toList = [T_laws_Matrix] := rfl
  have hin : ∀ t ∈ Try.f12.params.toList, t = T_laws_Matrix := by intro t ht; rw [e] at ht; simpa using ht
  exact law_calls (n := 8) (tb := T_bool) laidOutP (by intro t ht; rcases hin t ht with rfl <;> exact ⟨by kernel_rfl, of_decide_eq_true (by kernel_rfl)⟩)
    (by intro t ht; rcases hin t ht with rfl <;> first | (show plainT PP 8 T_laws_Matrix = true; kernel_rfl)) rfl u_bool rfl
    (by intro ds hd; match ds, hd with | [d0], _ => rfl) (fun av h => fnExactIsSymmetric_args h) hval hW
theorem fnExactIsSymmetric_holds : Rows.FnExactIsSymmetricSaid :=
  OpenClaim.holds_of_wide F_laws_FnExactIsSymmetric Try.f12 rfl rfl rfl rfl rfl rfl rfl ⟨rfl, rfl, rfl, rfl, rfl⟩ rfl rfl rfl rfl rfl (by kernel_rfl) Try.func12 (by kernel_rfl)
    (of_decide_eq_true (by kernel_rfl)) (by unfold Func.isWrapper; first | (rw [if_pos (by decide +kernel)]; kernel_rfl) | (rw [if_neg (by decide +kernel)]; exact ⟨rfl, rfl⟩))
    (fun os started H enc _ => fnExactIsSymmetric_lifted os started H enc)
end Go.Proofs.Ytekhgkpnhenecaa
