/- part of the proof -/
import Derived.Test.YtikmepdhpffdoaaGreatTLb2
import Derived.Test.YtikmepdhpffdoaaGreatTGr
import Derived.Test.YtikmepdhpffdoaaGreatRows
import Derived.Test.YtikmepdhpffdoaaGreatTJf
namespace Go.Proofs.YtikmepdhpffdoaaGreat
open Go Go.RowKit Go.ChangeShapes Go.WideShapes Go.ChangeAt
set_option maxRecDepth 100000
set_option maxHeartbeats 4000000
set_option linter.unusedVariables false
theorem fnExactCheckResult_args {av : List V} (h : RdA PP Tryz.f12.params.toList av) : PC PP F_laws_FnExactCheckResult av (Bo true) [] := by
  have e : Tryz.f12.params.toList = [T_laws_Program, T_laws_Result, T_sl_laws_Rat] := rfl
  rw [e] at h
  cases h; rename_i v0 vs0 g0 h
  cases h; rename_i v1 vs1 g1 h
  cases h; rename_i v2 vs2 g2 h
  cases h
  obtain ⟨p0, rfl, a0, b0, c0⟩ := rd_program (t := T_laws_Program) (by kernel_rfl) g0
  obtain ⟨q1, rfl, b1⟩ := rdv_result g1
  obtain ⟨l2, rfl, b2⟩ := rdv_rats g2
  exact FnExactCheckResult_c .b (by simp) p0 q1 l2 a0 b0 c0 b1 b2
theorem fnExactCheckResult_lifted (os : Os) (started : os.Started) (H : Type) (enc : TypeId × Value → H) :
    ReturnsInHanded {} Tryz.checked os F_laws_FnExactCheckResult .any (Rows.fnExactCheckResultSpec.pre6 enc Tryz.prog Tryz.f12 Rows.fnExactCheckResultRow.domain false) (Rows.fnExactCheckResultSpec.post enc Tryz.prog Tryz.f12 false true false false) := by
  refine returnsInHanded_of_change (C := Tryz.checked) ownKnobP started (by kernel_rfl) Tryz.func12
    (ChangeSpec.witness6 (enc := enc) (C := Tryz.checked) false ⟨#[], #[.agg #[.int .i64 0, .int .i64 0, .slice none 0 0, .slice none 0 0, .slice none 0 0], .agg #[.int .i64 0, .slice none 0 0, .bool false, .slice none 0 0, .slice none 0 0], .slice none 0 0], []⟩ 8 (by kernel_rfl) (by kernel_rfl) (by kernel_rfl) (by kernel_rfl)) ?_
  intro W base args ds gs before hval hW _ _
  have e : Tryz.f12.params.toList = [T_laws_Program, T_laws_Result, T_sl_laws_Rat] := rfl
  have hin : ∀ t ∈ Tryz.f12.params.toList, t = T_laws_Program ∨ t = T_laws_Result ∨ t = T_sl_laws_Rat := by intro t ht; rw [e] at ht; simpa using ht
  exact law_calls (n := 8) (tb := T_bool) laidOutP (by intro t ht; rcases hin t ht with rfl | rfl | rfl <;> exact ⟨by kernel_rfl, of_decide_eq_true (by kernel_rfl)⟩)
    (by intro t ht; rcases hin t ht with rfl | rfl | rfl <;> first | (show plainT PP 8 T_laws_Program = true; kernel_rfl) | (show plainT PP 8 T_laws_Result = true; kernel_rfl) | (show plainT PP 8 T_sl_laws_Rat = true; kernel_rfl)) rfl u_bool rfl
    (by intro ds hd; match ds, hd with | [d0, d1, d2], _ => rfl) (fun av h => fnExactCheckResult_args h) hval hW
theorem fnExactCheckResult_jf : joinedFacts Tryz.prog F_laws_FnExactCheckResult Tryz.f12 Rows.fnExactCheckResultSpec Rows.fnExactCheckResultRow = true := by
  unfold joinedFacts
  repeat' (with_reducible refine band ?_ ?_)
  rotate_left 25
  exact pMay
  (as_aux_lemma => unfold Program.liftsFinal Program.headLifts; rw [ini_of (s := Tryz.prog.initOrder) rfl]; kernel_rfl)
  (as_aux_lemma => rw [pMake]; kernel_rfl)
  all_goals (as_aux_lemma => kernel_rfl)
theorem fnExactCheckResult_holds : Rows.FnExactCheckResultSaid :=
  OpenClaim.holds_of_wide F_laws_FnExactCheckResult Tryz.f12 rfl rfl rfl rfl rfl rfl rfl ⟨rfl, rfl, rfl, rfl, rfl⟩ rfl rfl rfl rfl rfl (by as_aux_lemma => kernel_rfl) Tryz.func12 fnExactCheckResult_jf
    (of_decide_eq_true (by as_aux_lemma => kernel_rfl)) (by unfold Func.isWrapper; first | (rw [if_pos (by as_aux_lemma => decide +kernel)]; as_aux_lemma => kernel_rfl) | (rw [if_neg (by decide +kernel)]; exact ⟨rfl, rfl⟩))
    (fun os started H enc _ => fnExactCheckResult_lifted os started H enc)
end Go.Proofs.YtikmepdhpffdoaaGreat
