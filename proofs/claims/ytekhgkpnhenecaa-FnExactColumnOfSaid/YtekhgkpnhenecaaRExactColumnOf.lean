/- The law FnExactColumnOf, proved as its row states it: for all arguments the call returns true and leaves them as they were. -/
import Derived.Test.YtekhgkpnhenecaaLa2
import Derived.Test.YtekhgkpnhenecaaRg
import Derived.Test.YtekhgkpnhenecaaRows
namespace Go.Proofs.Ytekhgkpnhenecaa
open Go Go.RowKit Go.ChangeShapes Go.WideShapes Go.ChangeAt
set_option maxRecDepth 100000
set_option linter.unusedVariables false

theorem fnExactColumnOf_args {av : List V} (h : RdA PP Try.f4.params.toList av) : PC PP F_laws_FnExactColumnOf av (Bo true) [] := by
  have e : Try.f4.params.toList = [T_laws_Program, T_int] := rfl
  rw [e] at h
  cases h; rename_i v0 vs0 g0 h
  cases h; rename_i v1 vs1 g1 h
  cases h
  obtain ⟨p0, rfl, a0, b0, c0⟩ := rd_program (t := T_laws_Program) (by kernel_rfl) g0
  obtain ⟨n1, rfl, b1⟩ := rdv_int g1
  exact FnExactColumnOf_c .b (by simp) p0 n1 a0 b0 c0 b1

theorem fnExactColumnOf_lifted (os : Os) (started : os.Started) (H : Type) (enc : TypeId × Value → H) :
    ReturnsInHanded {} Try.checked os F_laws_FnExactColumnOf .any (Rows.fnExactColumnOfSpec.pre6 enc Try.prog Try.f4 Rows.fnExactColumnOfRow.domain false) (Rows.fnExactColumnOfSpec.post enc Try.prog Try.f4 false true false false) := by
  refine returnsInHanded_of_change (C := Try.checked) ownKnobP started (by kernel_rfl) Try.func4
    (ChangeSpec.witness6 (enc := enc) (C := Try.checked) false ⟨#[], #[.agg #[.int .i64 0, .int .i64 0, .slice none 0 0, .slice none 0 0, .slice none 0 0], .int .i64 0], []⟩ 8 (by kernel_rfl) (by kernel_rfl) (by kernel_rfl) (by kernel_rfl)) ?_
  intro W base args ds gs before hval hW _ _
  have e : Try.f4.params.toList = [T_laws_Program, T_int] := rfl
  have hin : ∀ t ∈ Try.f4.params.toList, t = T_laws_Program ∨ t = T_int := by intro t ht; rw [e] at ht; simpa using ht
  exact law_calls (n := 8) (tb := T_bool) laidOutP (by intro t ht; rcases hin t ht with rfl | rfl <;> exact ⟨by kernel_rfl, of_decide_eq_true (by kernel_rfl)⟩)
    (by intro t ht; rcases hin t ht with rfl | rfl <;> first | (show plainT PP 8 T_laws_Program = true; kernel_rfl) | (show plainT PP 8 T_int = true; kernel_rfl)) rfl u_bool rfl
    (by intro ds hd; match ds, hd with | [d0, d1], _ => rfl) (fun av h => fnExactColumnOf_args h) hval hW

theorem fnExactColumnOf_holds : Rows.FnExactColumnOfSaid :=
  OpenClaim.holds_of_wide F_laws_FnExactColumnOf Try.f4 rfl rfl rfl rfl rfl rfl rfl ⟨rfl, rfl, rfl, rfl, rfl⟩ rfl rfl rfl rfl rfl (by kernel_rfl) Try.func4 (by kernel_rfl)
    (of_decide_eq_true (by kernel_rfl)) (by unfold Func.isWrapper; first | (rw [if_pos (by decide +kernel)]; kernel_rfl) | (rw [if_neg (by decide +kernel)]; exact ⟨rfl, rfl⟩))
    (fun os started H enc _ => fnExactColumnOf_lifted os started H enc)
end Go.Proofs.Ytekhgkpnhenecaa
