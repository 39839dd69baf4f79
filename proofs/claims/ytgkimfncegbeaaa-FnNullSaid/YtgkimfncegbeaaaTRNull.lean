/- part of the proof -/
import Derived.Test.YtgkimfncegbeaaaTLc7
import Derived.Test.YtgkimfncegbeaaaTXc
import Derived.Test.YtgkimfncegbeaaaRows
import Derived.Test.YtgkimfncegbeaaaTJf
namespace Go.Proofs.Ytgkimfncegbeaaa
open Go Go.RowKit Go.ChangeShapes Go.WideShapes Go.ChangeAt
set_option maxRecDepth 100000
set_option maxHeartbeats 4000000
set_option linter.unusedVariables false
theorem fnNull_args {av : List V} (h : RdA PP Try.f3.params.toList av) : PC PP F_laws_FnNull av (Bo true) [] := by
  have e : Try.f3.params.toList = [T_sl_uint8] := rfl
  rw [e] at h
  cases h; rename_i v0 vs0 g0 h
  cases h
  obtain ⟨l0, rfl, b0⟩ := rdv_bytes g0
  exact FnNull_c .b (by simp) l0 b0
theorem fnNull_lifted (os : Os) (started : os.Started) (H : Type) (enc : TypeId × Value → H) :
    ReturnsInHanded {} Try.checked os F_laws_FnNull .any (Rows.fnNullSpec.pre6 enc Try.prog Try.f3 Rows.fnNullRow.domain false) (Rows.fnNullSpec.post enc Try.prog Try.f3 false true false false) := by
  refine returnsInHanded_of_change (C := Try.checked) ownKnobP started (by kernel_rfl) Try.func3
    (ChangeSpec.witness6 (enc := enc) (C := Try.checked) false ⟨#[], #[.slice none 0 0], []⟩ 8 (by kernel_rfl) (by kernel_rfl) (by kernel_rfl) (by kernel_rfl)) ?_
  intro W base args ds gs before hval hW _ _
  have e : Try.f3.params.toList = [T_sl_uint8] := rfl
  have hin : ∀ t ∈ Try.f3.params.toList, t = T_sl_uint8 := by intro t ht; rw [e] at ht; simpa using ht
  exact law_calls (n := 8) (tb := T_bool) laidOutP (by intro t ht; rcases hin t ht with rfl <;> exact ⟨by kernel_rfl, of_decide_eq_true (by kernel_rfl)⟩)
    (by intro t ht; rcases hin t ht with rfl <;> first | (show plainT PP 8 T_sl_uint8 = true; kernel_rfl)) rfl u_bool rfl
    (by intro ds hd; match ds, hd with | [d0], _ => rfl) (fun av h => fnNull_args h) hval hW
theorem fnNull_jf : joinedFacts Try.prog F_laws_FnNull Try.f3 Rows.fnNullSpec Rows.fnNullRow = true := by
  unfold joinedFacts
  repeat' (with_reducible refine band ?_ ?_)
  rotate_left 25
  exact pMay
  (as_aux_lemma => unfold Program.liftsFinal Program.headLifts; rw [ini_of (s := Try.prog.initOrder) rfl]; kernel_rfl)
  (as_aux_lemma => rw [pMake]; kernel_rfl)
  all_goals (as_aux_lemma => kernel_rfl)
theorem fnNull_holds : Rows.FnNullSaid :=
  OpenClaim.holds_of_wide F_laws_FnNull Try.f3 rfl rfl rfl rfl rfl rfl rfl ⟨rfl, rfl, rfl, rfl, rfl⟩ rfl rfl rfl rfl rfl (by as_aux_lemma => kernel_rfl) Try.func3 fnNull_jf
    (of_decide_eq_true (by as_aux_lemma => kernel_rfl)) (by unfold Func.isWrapper; first | (rw [if_pos (by as_aux_lemma => decide +kernel)]; as_aux_lemma => kernel_rfl) | (rw [if_neg (by decide +kernel)]; exact ⟨rfl, rfl⟩))
    (fun os started H enc _ => fnNull_lifted os started H enc)
end Go.Proofs.Ytgkimfncegbeaaa
