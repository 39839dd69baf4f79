/- part of the proof -/
import Derived.Test.YtkllbcfhkhfniaaTLb1
import Derived.Test.YtkllbcfhkhfniaaTGr
import Derived.Test.YtkllbcfhkhfniaaRows
import Derived.Test.YtkllbcfhkhfniaaTJf
namespace Go.Proofs.Ytkllbcfhkhfniaa
open Go Go.RowKit Go.ChangeShapes Go.WideShapes Go.ChangeAt
set_option maxRecDepth 100000
set_option maxHeartbeats 4000000
set_option linter.unusedVariables false
theorem fnExactBoundAt_args {av : List V} (h : RdA PP Try.f15.params.toList av) : PC PP F_laws_FnExactBoundAt av (Bo true) [] := by
  have e : Try.f15.params.toList = [T_laws_Program, T_sl_laws_Rat] := rfl
  rw [e] at h
  cases h; rename_i v0 vs0 g0 h
  cases h; rename_i v1 vs1 g1 h
  cases h
  obtain ⟨p0, rfl, a0, b0, c0⟩ := rd_program (t := T_laws_Program) (by kernel_rfl) g0
  obtain ⟨l1, rfl, b1⟩ := rdv_rats g1
  exact FnExactBoundAt_c .b (by simp) p0 l1 a0 b0 c0 b1
theorem fnExactBoundAt_lifted (os : Os) (started : os.Started) (H : Type) (enc : TypeId × Value → H) :
    ReturnsInHanded {} Try.checked os F_laws_FnExactBoundAt .any (Rows.fnExactBoundAtSpec.pre6 enc Try.prog Try.f15 Rows.fnExactBoundAtRow.domain false) (Rows.fnExactBoundAtSpec.post enc Try.prog Try.f15 false true false false) := by
  refine returnsInHanded_of_change (C := Try.checked) ownKnobP started (by kernel_rfl) Try.func15
    (ChangeSpec.witness6 (enc := enc) (C := Try.checked) false ⟨#[], #[.agg #[.int .i64 0, .int .i64 0, .slice none 0 0, .slice none 0 0, .slice none 0 0], .slice none 0 0], []⟩ 8 (by kernel_rfl) (by kernel_rfl) (by kernel_rfl) (by kernel_rfl)) ?_
  intro W base args ds gs before hval hW _ _
  have e : Try.f15.params.toList = [T_laws_Program, T_sl_laws_Rat] := rfl
  have hin : ∀ t ∈ Try.f15.params.toList, t = T_laws_Program ∨ t = T_sl_laws_Rat := by intro t ht; rw [e] at ht; simpa using ht
  exact law_calls (n := 8) (tb := T_bool) laidOutP (by intro t ht; rcases hin t ht with rfl | rfl <;> exact ⟨by kernel_rfl, of_decide_eq_true (by kernel_rfl)⟩)
    (by intro t ht; rcases hin t ht with rfl | rfl <;> first | (show plainT PP 8 T_laws_Program = true; kernel_rfl) | (show plainT PP 8 T_sl_laws_Rat = true; kernel_rfl)) rfl u_bool rfl
    (by intro ds hd; match ds, hd with | [d0, d1], _ => rfl) (fun av h => fnExactBoundAt_args h) hval hW
theorem fnExactBoundAt_jf : joinedFacts Try.prog F_laws_FnExactBoundAt Try.f15 Rows.fnExactBoundAtSpec Rows.fnExactBoundAtRow = true := by
  unfold joinedFacts
  repeat' (with_reducible refine band ?_ ?_)
  rotate_left 25
  exact pMay
  (as_aux_lemma => unfold Program.liftsFinal Program.headLifts; rw [ini_of (s := Try.prog.initOrder) rfl]; kernel_rfl)
  (as_aux_lemma => rw [pMake]; kernel_rfl)
  all_goals (as_aux_lemma => kernel_rfl)
theorem fnExactBoundAt_holds : Rows.FnExactBoundAtSaid :=
  OpenClaim.holds_of_wide F_laws_FnExactBoundAt Try.f15 rfl rfl rfl rfl rfl rfl rfl ⟨rfl, rfl, rfl, rfl, rfl⟩ rfl rfl rfl rfl rfl (by as_aux_lemma => kernel_rfl) Try.func15 fnExactBoundAt_jf
    (of_decide_eq_true (by as_aux_lemma => kernel_rfl)) (by unfold Func.isWrapper; first | (rw [if_pos (by as_aux_lemma => decide +kernel)]; as_aux_lemma => kernel_rfl) | (rw [if_neg (by decide +kernel)]; exact ⟨rfl, rfl⟩))
    (fun os started H enc _ => fnExactBoundAt_lifted os started H enc)
end Go.Proofs.Ytkllbcfhkhfniaa
