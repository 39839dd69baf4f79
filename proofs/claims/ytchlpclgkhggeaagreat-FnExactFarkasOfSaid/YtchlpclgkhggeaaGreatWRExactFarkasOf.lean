/- part of the proof -/
import Derived.Test.YtchlpclgkhggeaaGreatWLd3
import Derived.Test.YtchlpclgkhggeaaGreatWSg
import Derived.Test.YtchlpclgkhggeaaGreatRows
import Derived.Test.YtchlpclgkhggeaaGreatWJf
namespace Go.Proofs.YtchlpclgkhggeaaGreat
open Go Go.RowKit Go.ChangeShapes Go.WideShapes Go.ChangeAt
set_option maxRecDepth 100000
set_option maxHeartbeats 4000000
set_option linter.unusedVariables false
theorem X0f {av : List V} (h : RdA PP Tryz.f6.params.toList av) : PC PP Q0y av (Bo true) [] := by
  have e : Tryz.f6.params.toList = [Q1O] := rfl
  rw [e] at h
  cases h; rename_i v0 vs0 g0 h
  cases h
  obtain ⟨p0, rfl, a0, b0, c0⟩ := Y5E (t := Q1O) (by kernel_rfl) g0
  exact X5w .b (by simp) p0 a0 b0 c0
theorem Q7Z (os : Os) (started : os.Started) (H : Type) (enc : TypeId × Value → H) :
    ReturnsInHanded {} Tryz.checked os Q0y .any (Rows.fnExactFarkasOfSpec.pre6 enc Tryz.prog Tryz.f6 Rows.fnExactFarkasOfRow.domain false) (Rows.fnExactFarkasOfSpec.post enc Tryz.prog Tryz.f6 false true false false) := by
  refine returnsInHanded_of_change (C := Tryz.checked) ownKnobP started (by kernel_rfl) Tryz.func6
    (ChangeSpec.witness6 (enc := enc) (C := Tryz.checked) false ⟨#[], #[.agg #[.int .i64 0, .int .i64 0, .slice none 0 0, .slice none 0 0, .slice none 0 0]], []⟩ 8 (by kernel_rfl) (by kernel_rfl) (by kernel_rfl) (by kernel_rfl)) ?_
  intro W base args ds gs before hval hW _ _
  have e : Tryz.f6.params.toList = [Q1O] := rfl
  have hin : ∀ t ∈ Tryz.f6.params.toList, t = Q1O := by intro t ht; rw [e] at ht; simpa using ht
  exact Y7M (n := 8) (tb := X8F) laidOutP (by intro t ht; rcases hin t ht with rfl <;> exact ⟨by kernel_rfl, of_decide_eq_true (by kernel_rfl)⟩)
    (by intro t ht; rcases hin t ht with rfl <;> first | (show plainT PP 8 Q1O = true; kernel_rfl)) rfl Z3N rfl
    (by intro ds hd; match ds, hd with | [d0], _ => rfl) (fun av h => X0f h) hval hW
theorem X3z : joinedFacts Tryz.prog Q0y Tryz.f6 Rows.fnExactFarkasOfSpec Rows.fnExactFarkasOfRow = true := by
  unfold joinedFacts
  repeat' (with_reducible refine band ?_ ?_)
  rotate_left 25
  exact pMay
  (as_aux_lemma => unfold Program.liftsFinal Program.headLifts; rw [Y7Y (s := Tryz.prog.initOrder) rfl]; kernel_rfl)
  (as_aux_lemma => rw [pMake]; kernel_rfl)
  all_goals (as_aux_lemma => kernel_rfl)
theorem fnExactFarkasOf_holds : Rows.FnExactFarkasOfSaid :=
  OpenClaim.holds_of_wide Q0y Tryz.f6 rfl rfl rfl rfl rfl rfl rfl ⟨rfl, rfl, rfl, rfl, rfl⟩ rfl rfl rfl rfl rfl (by as_aux_lemma => kernel_rfl) Tryz.func6 X3z
    (of_decide_eq_true (by as_aux_lemma => kernel_rfl)) (by unfold Func.isWrapper; first | (rw [if_pos (by as_aux_lemma => decide +kernel)]; as_aux_lemma => kernel_rfl) | (rw [if_neg (by decide +kernel)]; exact ⟨rfl, rfl⟩))
    (fun os started H enc _ => Q7Z os started H enc)
end Go.Proofs.YtchlpclgkhggeaaGreat