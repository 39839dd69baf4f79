/- The row FnExactProgramOk. -/
import Derived.Test.YtekhgkpnhenecaaRo1
namespace Go.Proofs.Ytekhgkpnhenecaa
open Go Go.RowKit Go.ChangeShapes Go.WideShapes Go.ChangeAt
set_option maxRecDepth 100000

theorem fnExactProgramOk_holds : Rows.FnExactProgramOkSaid :=
  OpenClaim.holds_of_wide F_laws_FnExactProgramOk Try.f3 rfl rfl rfl rfl rfl rfl rfl ⟨rfl, rfl, rfl, rfl, rfl⟩ rfl rfl rfl rfl rfl (by kernel_rfl) Try.func3 (by kernel_rfl)
    (of_decide_eq_true (by kernel_rfl)) (by unfold Func.isWrapper; first | (rw [if_pos (by decide +kernel)]; kernel_rfl) | (rw [if_neg (by decide +kernel)]; exact ⟨rfl, rfl⟩))
    (fun os started H enc _ => fnExactProgramOk_lifted os started H enc)
end Go.Proofs.Ytekhgkpnhenecaa
