/- part of the proof -/
import Derived.Test.YtchlpclgkhggeaaTUm
import Derived.Test.YtchlpclgkhggeaaTXk
namespace Go.Proofs.Ytchlpclgkhggeaa
open Go Go.RowKit
set_option maxRecDepth 100000
set_option maxHeartbeats 4000000
set_option linter.unusedVariables false
set_option linter.unusedSimpArgs false
noncomputable def hasB (p : Prg) : Bool := by classical exact decide (okP' p = true ∧ ∃ x, p.lp.Fx x)
theorem hasB_yes {p : Prg} (ho : okP' p = true) (hx : ∃ x, p.lp.Fx x) : hasB p = true := by classical exact decide_eq_true ⟨ho, hx⟩
theorem hasB_no {p : Prg} (hx : ¬ ∃ x, p.lp.Fx x) : hasB p = false := by classical exact decide_eq_false fun h => hx h.2
theorem hasB_bad {p : Prg} (ho : okP' p = false) : hasB p = false := by classical exact decide_eq_false fun h => by rw [ho] at h; cases h.1
theorem impl_HasSolution_c (f : Fl) (hf : f ≠ .u) (p : Prg) (hp : p.small) : PC PP F_impl_HasSolution [pV f p] (Bo (hasB p)) [] := by
 have q0 := impl_ProgramOk_c f hf p hp
 cases ho : okP' p
 ·rw [ho] at q0
  rw [hasB_bad ho]
  refine tx W_impl_HasSolution ke_impl_HasSolution [] (by kernel_rfl) ?_
  simp -dsimp(disch:=first|exact om|fail)only[go_sem,simprocAttr,xE,xN,xC,xP,xA,xZ, pC]
  refine callP q0 (by simp -dsimp(disch:=first|exact om|fail)only[go_sem,simprocAttr,xE,xN,xC,xP,xA,xZ, pC]) ?_
  simp -dsimp(disch:=first|exact om|fail)only[go_sem,simprocAttr,xE,xN,xC,xP,xA,xZ]
 ·rw [ho] at q0
  obtain ⟨r, c, hr, hc⟩ : ∃ r c : Nat, p.rows = r ∧ p.cols = c := by
   obtain ⟨⟨r1, r2⟩, ⟨c1, c2⟩, _⟩ := okP_spec ho
   exact ⟨p.rows.toNat, p.cols.toNat, by omega, by omega⟩
  obtain ⟨b1, b2⟩ := begin_both f hf p r c ho hr hc
  by_cases hx : ∃ x, p.lp.Fx x
  ·obtain ⟨m, z, t, _, _, hb⟩ := b1 hx
   rw [hasB_yes ho hx]
   refine tx W_impl_HasSolution ke_impl_HasSolution [] (by kernel_rfl) ?_
   simp -dsimp(disch:=first|exact om|fail)only[go_sem,simprocAttr,xE,xN,xC,xP,xA,xZ, pC]
   refine callP q0 (by simp -dsimp(disch:=first|exact om|fail)only[go_sem,simprocAttr,xE,xN,xC,xP,xA,xZ, pC]) ?_
   simp -dsimp(disch:=first|exact om|fail)only[go_sem,simprocAttr,xE,xN,xC,xP,xA,xZ]
   refine callO' hb (.cons _ _ _ _ (.ref 0 0 _ _ rfl (.inl rfl) (leL_pC2 hf)) .nil) lF ?_
   simp -dsimp(disch:=first|exact om|fail)only[go_sem,simprocAttr,xE,xN,xC,xP,xA,xZ]
  ·have hb := b2 hx
   rw [hasB_no hx]
   refine tx W_impl_HasSolution ke_impl_HasSolution [] (by kernel_rfl) ?_
   simp -dsimp(disch:=first|exact om|fail)only[go_sem,simprocAttr,xE,xN,xC,xP,xA,xZ, pC]
   refine callP q0 (by simp -dsimp(disch:=first|exact om|fail)only[go_sem,simprocAttr,xE,xN,xC,xP,xA,xZ, pC]) ?_
   simp -dsimp(disch:=first|exact om|fail)only[go_sem,simprocAttr,xE,xN,xC,xP,xA,xZ]
   refine callO' hb (.cons _ _ _ _ (.ref 0 0 _ _ rfl (.inl rfl) (leL_pC2 hf)) .nil) lF ?_
   simp -dsimp(disch:=first|exact om|fail)only[go_sem,simprocAttr,xE,xN,xC,xP,xA,xZ]
end Go.Proofs.Ytchlpclgkhggeaa