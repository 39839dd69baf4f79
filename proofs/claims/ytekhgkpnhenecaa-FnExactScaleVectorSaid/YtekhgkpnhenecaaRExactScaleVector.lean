/- The law FnExactScaleVector, proved as its row states it: for all arguments the call returns true and leaves them as they were. -/
import Derived.Test.YtekhgkpnhenecaaLa4
import Derived.Test.YtekhgkpnhenecaaGr
import Derived.Test.YtekhgkpnhenecaaRows
namespace Go.Proofs.Ytekhgkpnhenecaa
open Go Go.RowKit Go.ChangeShapes Go.WideShapes Go.ChangeAt
set_option maxRecDepth 100000
set_option linter.unusedVariables false

theorem fnExactScaleVector_args {av : List V} (h : RdA PP Try.f13.params.toList av) : PC PP F_laws_FnExactScaleVector av (Bo true) [] := by
  have e : Try.f13.params.toList = [T_laws_Rat, T_sl_laws_Rat] := rfl
  rw [e] at h
  cases h; rename_i v0 vs0 g0 h
  cases h; rename_i v1 vs1 g1 h
  cases h
  obtain ⟨r0, rfl, b0⟩ := rdv_rat g0
  obtain ⟨l1, rfl, b1⟩ := rdv_rats g1
  exact FnExactScaleVector_c .b (by simp) r0 l1 b0 b1

theorem fnExactScaleVector_lifted (os : Os) (started : os.Started) (H : Type) (enc : TypeId × Value → H) :
    ReturnsInHanded {} Try.checked os F_laws_FnExactScaleVector .any (Rows.fnExactScaleVectorSpec.pre6 enc Try.prog Try.f13 Rows.fnExactScaleVectorRow.domain false) (Rows.fnExactScaleVectorSpec.post enc Try.prog Try.f13 false true false false) := by
  refine returnsInHanded_of_change (C := Try.checked) ownKnobP started (by kernel_rfl) Try.func13
    (ChangeSpec.witness6 (enc := enc) (C := Try.checked) false ⟨#[], #[.agg #[.bool false, .slice none 0 0, .slice none 0 0], .slice none 0 0], []⟩ 8 (by kernel_rfl) (by kernel_rfl) (by kernel_rfl) (by kernel_rfl)) ?_
  intro W base args ds gs before hval hW _ _
  have e : Try.f13.params.toList = [T_laws_Rat, T_sl_laws_Rat] := rfl
  have hin : ∀ t ∈ Try.f13.params.toList, t = T_laws_Rat ∨ t = T_sl_laws_Rat := by intro t ht; rw [e] at ht; simpa using ht
  exact law_calls (n := 8) (tb := T_bool) laidOutP (by intro t ht; rcases hin t ht with rfl | rfl <;> exact ⟨by kernel_rfl, of_decide_eq_true (by kernel_rfl)⟩)
    (by intro t ht; rcases hin t ht with rfl | rfl <;> first | (show plainT PP 8 T_laws_Rat = true; kernel_rfl) | (show plainT PP 8 T_sl_laws_Rat = true; kernel_rfl)) rfl u_bool rfl
    (by intro ds hd; match ds, hd with | [d0, d1], _ => rfl) (fun av h => fnExactScaleVector_args h) hval hW

theorem fnExactScaleVector_holds : Rows.FnExactScaleVectorSaid :=
  OpenClaim.holds_of_wide F_laws_FnExactScaleVector Try.f13 rfl rfl rfl rfl rfl rfl rfl ⟨rfl, rfl, rfl, rfl, rfl⟩ rfl rfl rfl rfl rfl (by kernel_rfl) Try.func13 (by kernel_rfl)
    (of_decide_eq_true (by kernel_rfl)) (by unfold Func.isWrapper; first | (rw [if_pos (by decide +kernel)]; kernel_rfl) | (rw [if_neg (by decide +kernel)]; exact ⟨rfl, rfl⟩))
    (fun os started H enc _ => fnExactScaleVector_lifted os started H enc)
end Go.Proofs.Ytekhgkpnhenecaa
