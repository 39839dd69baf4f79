/- part of the proof -/
import Derived.Test.YtchlpclgkhggeaaTUx
import Derived.Test.YtchlpclgkhggeaaTXk
import Derived.Test.YtchlpclgkhggeaaRows
import Derived.Test.YtchlpclgkhggeaaTJf
namespace Go.Proofs.Ytchlpclgkhggeaa
open Go Go.RowKit Go.ChangeShapes Go.WideShapes Go.ChangeAt
set_option maxRecDepth 100000
set_option maxHeartbeats 4000000
set_option linter.unusedVariables false
theorem fnSolved_args {av : List V} (h : RdA PP Try.f5.params.toList av) : PC PP F_laws_FnSolved av (Bo true) [] := by
  have e : Try.f5.params.toList = [T_sl_uint8] := rfl
  rw [e] at h
  cases h; rename_i v0 vs0 g0 h
  cases h
  obtain ⟨l0, rfl, b0⟩ := rdv_bytes g0
  exact FnSolved_c .b (by simp) l0 b0
theorem fnSolved_lifted (os : Os) (started : os.Started) (H : Type) (enc : TypeId × Value → H) :
    ReturnsInHanded {} Try.checked os F_laws_FnSolved .any (Rows.fnSolvedSpec.pre6 enc Try.prog Try.f5 Rows.fnSolvedRow.domain false) (Rows.fnSolvedSpec.post enc Try.prog Try.f5 false true false false) := by
  refine returnsInHanded_of_change (C := Try.checked) ownKnobP started (by kernel_rfl) Try.func5
    (ChangeSpec.witness6 (enc := enc) (C := Try.checked) false ⟨#[], #[.slice none 0 0], []⟩ 8 (by kernel_rfl) (by kernel_rfl) (by kernel_rfl) (by kernel_rfl)) ?_
  intro W base args ds gs before hval hW _ _
  have e : Try.f5.params.toList = [T_sl_uint8] := rfl
  have hin : ∀ t ∈ Try.f5.params.toList, t = T_sl_uint8 := by intro t ht; rw [e] at ht; simpa using ht
  exact law_calls (n := 8) (tb := T_bool) laidOutP (by intro t ht; rcases hin t ht with rfl <;> exact ⟨by kernel_rfl, of_decide_eq_true (by kernel_rfl)⟩)
    (by intro t ht; rcases hin t ht with rfl <;> first | (show plainT PP 8 T_sl_uint8 = true; kernel_rfl)) rfl u_bool rfl
    (by intro ds hd; match ds, hd with | [d0], _ => rfl) (fun av h => fnSolved_args h) hval hW
theorem fnSolved_jf : joinedFacts Try.prog F_laws_FnSolved Try.f5 Rows.fnSolvedSpec Rows.fnSolvedRow = true := by
  unfold joinedFacts
  repeat' (with_reducible refine band ?_ ?_)
  rotate_left 25
  exact pMay
  (as_aux_lemma => unfold Program.liftsFinal Program.headLifts; rw [ini_of (s := Try.prog.initOrder) rfl]; kernel_rfl)
  (as_aux_lemma => rw [pMake]; kernel_rfl)
  all_goals (as_aux_lemma => kernel_rfl)
theorem fnSolved_holds : Rows.FnSolvedSaid :=
  OpenClaim.holds_of_wide F_laws_FnSolved Try.f5 rfl rfl rfl rfl rfl rfl rfl ⟨rfl, rfl, rfl, rfl, rfl⟩ rfl rfl rfl rfl rfl (by as_aux_lemma => kernel_rfl) Try.func5 fnSolved_jf
    (of_decide_eq_true (by as_aux_lemma => kernel_rfl)) (by unfold Func.isWrapper; first | (rw [if_pos (by as_aux_lemma => decide +kernel)]; as_aux_lemma => kernel_rfl) | (rw [if_neg (by decide +kernel)]; exact ⟨rfl, rfl⟩))
    (fun os started H enc _ => fnSolved_lifted os started H enc)
end Go.Proofs.Ytchlpclgkhggeaa