/- part of the proof -/
import Derived.Test.YtkllbcfhkhfniaaTLa8
import Derived.Test.YtkllbcfhkhfniaaTGr
import Derived.Test.YtkllbcfhkhfniaaRows
import Derived.Test.YtkllbcfhkhfniaaTJf
namespace Go.Proofs.Ytkllbcfhkhfniaa
open Go Go.RowKit Go.ChangeShapes Go.WideShapes Go.ChangeAt
set_option maxRecDepth 100000
set_option maxHeartbeats 4000000
set_option linter.unusedVariables false
theorem fnExactInnerProduct_args {av : List V} (h : RdA PP Try.f9.params.toList av) : PC PP F_laws_FnExactInnerProduct av (Bo true) [] := by
  have e : Try.f9.params.toList = [T_sl_laws_Rat, T_sl_laws_Rat] := rfl
  rw [e] at h
  cases h; rename_i v0 vs0 g0 h
  cases h; rename_i v1 vs1 g1 h
  cases h
  obtain ⟨l0, rfl, b0⟩ := rdv_rats g0
  obtain ⟨l1, rfl, b1⟩ := rdv_rats g1
  exact FnExactInnerProduct_c .b (by simp) l0 l1 b0 b1
theorem fnExactInnerProduct_lifted (os : Os) (started : os.Started) (H : Type) (enc : TypeId × Value → H) :
    ReturnsInHanded {} Try.checked os F_laws_FnExactInnerProduct .any (Rows.fnExactInnerProductSpec.pre6 enc Try.prog Try.f9 Rows.fnExactInnerProductRow.domain false) (Rows.fnExactInnerProductSpec.post enc Try.prog Try.f9 false true false false) := by
  refine returnsInHanded_of_change (C := Try.checked) ownKnobP started (by kernel_rfl) Try.func9
    (ChangeSpec.witness6 (enc := enc) (C := Try.checked) false ⟨#[], #[.slice none 0 0, .slice none 0 0], []⟩ 8 (by kernel_rfl) (by kernel_rfl) (by kernel_rfl) (by kernel_rfl)) ?_
  intro W base args ds gs before hval hW _ _
  have e : Try.f9.params.toList = [T_sl_laws_Rat, T_sl_laws_Rat] := rfl
  have hin : ∀ t ∈ Try.f9.params.toList, t = T_sl_laws_Rat ∨ t = T_sl_laws_Rat := by intro t ht; rw [e] at ht; simpa using ht
  exact law_calls (n := 8) (tb := T_bool) laidOutP (by intro t ht; rcases hin t ht with rfl | rfl <;> exact ⟨by kernel_rfl, of_decide_eq_true (by kernel_rfl)⟩)
    (by intro t ht; rcases hin t ht with rfl | rfl <;> first | (show plainT PP 8 T_sl_laws_Rat = true; kernel_rfl)) rfl u_bool rfl
    (by intro ds hd; match ds, hd with | [d0, d1], _ => rfl) (fun av h => fnExactInnerProduct_args h) hval hW
theorem fnExactInnerProduct_jf : joinedFacts Try.prog F_laws_FnExactInnerProduct Try.f9 Rows.fnExactInnerProductSpec Rows.fnExactInnerProductRow = true := by
  unfold joinedFacts
  repeat' (with_reducible refine band ?_ ?_)
  rotate_left 25
  exact pMay
  (as_aux_lemma => unfold Program.liftsFinal Program.headLifts; rw [ini_of (s := Try.prog.initOrder) rfl]; kernel_rfl)
  (as_aux_lemma => rw [pMake]; kernel_rfl)
  all_goals (as_aux_lemma => kernel_rfl)
theorem fnExactInnerProduct_holds : Rows.FnExactInnerProductSaid :=
  OpenClaim.holds_of_wide F_laws_FnExactInnerProduct Try.f9 rfl rfl rfl rfl rfl rfl rfl ⟨rfl, rfl, rfl, rfl, rfl⟩ rfl rfl rfl rfl rfl (by as_aux_lemma => kernel_rfl) Try.func9 fnExactInnerProduct_jf
    (of_decide_eq_true (by as_aux_lemma => kernel_rfl)) (by unfold Func.isWrapper; first | (rw [if_pos (by as_aux_lemma => decide +kernel)]; as_aux_lemma => kernel_rfl) | (rw [if_neg (by decide +kernel)]; exact ⟨rfl, rfl⟩))
    (fun os started H enc _ => fnExactInnerProduct_lifted os started H enc)
end Go.Proofs.Ytkllbcfhkhfniaa
