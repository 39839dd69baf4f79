/- part of the proof -/
import Derived.Test.YtekhgkpnhenecaaTLa7
import Derived.Test.YtekhgkpnhenecaaTGr
import Derived.Test.YtekhgkpnhenecaaRows
namespace Go.Proofs.Ytekhgkpnhenecaa
open Go Go.RowKit Go.ChangeShapes Go.WideShapes Go.ChangeAt
set_option maxRecDepth 100000
set_option linter.unusedVariables false
theorem fnExactSubmatrix_args {av : List V} (h : RdA PP Try.f14.params.toList av) : PC PP F_laws_FnExactSubmatrix av (Bo true) [] := by
  have e : Try.f14.params.toList = [T_laws_Matrix, T_sl_int] := rfl
  rw [e] at h
  cases h; rename_i v0 vs0 g0 h
  cases h; rename_i v1 vs1 g1 h
  cases h
  obtain ⟨m0, rfl, b0⟩ := rdv_matrix g0
  obtain ⟨l1, rfl, b1⟩ := rdv_ints g1
  exact FnExactSubmatrix_c .b (by simp) m0 l1 b0 b1
theorem fnExactSubmatrix_lifted (os : Os) (started : os.Started) (H : Type) (enc : TypeId × Value → H) :
    ReturnsInHanded {} Try.checked os F_laws_FnExactSubmatrix .any (Rows.fnExactSubmatrixSpec.pre6 enc Try.prog Try.f14 Rows.fnExactSubmatrixRow.domain false) (Rows.fnExactSubmatrixSpec.post enc Try.prog Try.f14 false true false false) := by
  refine returnsInHanded_of_change (C := Try.checked) ownKnobP started (by kernel_rfl) Try.func14
    (ChangeSpec.witness6 (enc := enc) (C := Try.checked) false ⟨#[], #[.agg #[.int .i64 0, .int .i64 0, .slice none 0 0], .slice none 0 0], []⟩ 8 (by kernel_rfl) (by kernel_rfl) (by kernel_rfl) (by kernel_rfl)) ?_
  intro W base args ds gs before hval hW _ _
  have e : Try.f14.params.toList = [T_laws_Matrix, T_sl_int] := rfl
  have hin : ∀ t ∈ Try.f14.params.toList, t = T_laws_Matrix ∨ t = T_sl_int := by intro t ht; rw [e] at ht; simpa using ht
  exact law_calls (n := 8) (tb := T_bool) laidOutP (by intro t ht; rcases hin t ht with rfl | rfl <;> exact ⟨by kernel_rfl, of_decide_eq_true (by kernel_rfl)⟩)
    (by intro t ht; rcases hin t ht with rfl | rfl <;> first | (show plainT PP 8 T_laws_Matrix = true; kernel_rfl) | (show plainT PP 8 T_sl_int = true; kernel_rfl)) rfl u_bool rfl
    (by intro ds hd; match ds, hd with | [d0, d1], _ => rfl) (fun av h => fnExactSubmatrix_args h) hval hW
theorem fnExactSubmatrix_holds : Rows.FnExactSubmatrixSaid :=
  OpenClaim.holds_of_wide F_laws_FnExactSubmatrix Try.f14 rfl rfl rfl rfl rfl rfl rfl ⟨rfl, rfl, rfl, rfl, rfl⟩ rfl rfl rfl rfl rfl (by kernel_rfl) Try.func14 (by kernel_rfl)
    (of_decide_eq_true (by kernel_rfl)) (by unfold Func.isWrapper; first | (rw [if_pos (by decide +kernel)]; kernel_rfl) | (rw [if_neg (by decide +kernel)]; exact ⟨rfl, rfl⟩))
    (fun os started H enc _ => fnExactSubmatrix_lifted os started H enc)
end Go.Proofs.Ytekhgkpnhenecaa
