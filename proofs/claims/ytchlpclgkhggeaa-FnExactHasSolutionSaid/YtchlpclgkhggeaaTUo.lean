/- part of the proof -/
import Derived.Test.YtchlpclgkhggeaaTUi
import Derived.Test.YtchlpclgkhggeaaTTo
import Derived.Test.YtchlpclgkhggeaaTWb
import Derived.Test.YtchlpclgkhggeaaTWd
import Derived.Test.YtchlpclgkhggeaaTSg
namespace Go.Proofs.Ytchlpclgkhggeaa
open Go Go.RowKit
set_option maxRecDepth 100000
set_option maxHeartbeats 4000000
set_option linter.unusedVariables false
set_option linter.unusedSimpArgs false
noncomputable def hasB (p : Prg) : Bool := by classical exact decide (okP' p = true ∧ ∃ x, p.lp.Fx x)
theorem hasB_yes {p : Prg} (ho : okP' p = true) (hx : ∃ x, p.lp.Fx x) : hasB p = true := by classical exact decide_eq_true ⟨ho, hx⟩
theorem hasB_no {p : Prg} (hx : ¬ ∃ x, p.lp.Fx x) : hasB p = false := by classical exact decide_eq_false fun h => hx h.2
theorem hasB_bad {p : Prg} (ho : okP' p = false) : hasB p = false := by classical exact decide_eq_false fun h => by rw [ho] at h; cases h.1
theorem impl_HasSolution_c (f : Fl) (hf : f ≠ .u) (p : Prg) (hp : p.small) : PC PP F_impl_HasSolution [pV f p] (Bo (hasB p)) [] := by
  have q0 := impl_ProgramOk_c f hf p hp
  cases ho : okP' p
  · rw [ho] at q0
    rw [hasB_bad ho]
    refine tx W_impl_HasSolution ke_impl_HasSolution [] (by kernel_rfl) ?_
    simp -dsimp(disch:=first|exact om|fail)only[go_sem,↓reduceIte,Nat.reduceEqDiff,Nat.reduceAdd,Nat.reduceSub,Nat.reduceMul,Nat.reduceLT,Nat.reduceLeDiff,reduceCtorEq,a_eq,a_neq,a_cast0,a_pred,a_app1,a_zero,Int.reduceToNat, pC]
    refine callP q0 (by simp -dsimp(disch:=first|exact om|fail)only[go_sem,↓reduceIte,Nat.reduceEqDiff,Nat.reduceAdd,Nat.reduceSub,Nat.reduceMul,Nat.reduceLT,Nat.reduceLeDiff,reduceCtorEq,a_eq,a_neq,a_cast0,a_pred,a_app1,a_zero,Int.reduceToNat, pC]) ?_
    simp -dsimp(disch:=first|exact om|fail)only[go_sem,↓reduceIte,Nat.reduceEqDiff,Nat.reduceAdd,Nat.reduceSub,Nat.reduceMul,Nat.reduceLT,Nat.reduceLeDiff,reduceCtorEq,a_eq,a_neq,a_cast0,a_pred,a_app1,a_zero,Int.reduceToNat]
  · rw [ho] at q0
    obtain ⟨r, c, hr, hc⟩ : ∃ r c : Nat, p.rows = r ∧ p.cols = c := by
      obtain ⟨⟨r1, r2⟩, ⟨c1, c2⟩, _⟩ := okP_spec ho
      exact ⟨p.rows.toNat, p.cols.toNat, by omega, by omega⟩
    obtain ⟨b1, b2⟩ := begin_both f hf p r c ho hr hc
    by_cases hx : ∃ x, p.lp.Fx x
    · obtain ⟨m, z, t, _, _, hb⟩ := b1 hx
      rw [hasB_yes ho hx]
      refine tx W_impl_HasSolution ke_impl_HasSolution [] (by kernel_rfl) ?_
      simp -dsimp(disch:=first|exact om|fail)only[go_sem,↓reduceIte,Nat.reduceEqDiff,Nat.reduceAdd,Nat.reduceSub,Nat.reduceMul,Nat.reduceLT,Nat.reduceLeDiff,reduceCtorEq,a_eq,a_neq,a_cast0,a_pred,a_app1,a_zero,Int.reduceToNat, pC]
      refine callP q0 (by simp -dsimp(disch:=first|exact om|fail)only[go_sem,↓reduceIte,Nat.reduceEqDiff,Nat.reduceAdd,Nat.reduceSub,Nat.reduceMul,Nat.reduceLT,Nat.reduceLeDiff,reduceCtorEq,a_eq,a_neq,a_cast0,a_pred,a_app1,a_zero,Int.reduceToNat, pC]) ?_
      simp -dsimp(disch:=first|exact om|fail)only[go_sem,↓reduceIte,Nat.reduceEqDiff,Nat.reduceAdd,Nat.reduceSub,Nat.reduceMul,Nat.reduceLT,Nat.reduceLeDiff,reduceCtorEq,a_eq,a_neq,a_cast0,a_pred,a_app1,a_zero,Int.reduceToNat]
      refine callO' hb (.cons _ _ _ _ (.ref 0 0 _ _ rfl (.inl rfl) (leL_pC2 hf)) .nil) lF ?_
      simp -dsimp(disch:=first|exact om|fail)only[go_sem,↓reduceIte,Nat.reduceEqDiff,Nat.reduceAdd,Nat.reduceSub,Nat.reduceMul,Nat.reduceLT,Nat.reduceLeDiff,reduceCtorEq,a_eq,a_neq,a_cast0,a_pred,a_app1,a_zero,Int.reduceToNat]
    · have hb := b2 hx
      rw [hasB_no hx]
      refine tx W_impl_HasSolution ke_impl_HasSolution [] (by kernel_rfl) ?_
      simp -dsimp(disch:=first|exact om|fail)only[go_sem,↓reduceIte,Nat.reduceEqDiff,Nat.reduceAdd,Nat.reduceSub,Nat.reduceMul,Nat.reduceLT,Nat.reduceLeDiff,reduceCtorEq,a_eq,a_neq,a_cast0,a_pred,a_app1,a_zero,Int.reduceToNat, pC]
      refine callP q0 (by simp -dsimp(disch:=first|exact om|fail)only[go_sem,↓reduceIte,Nat.reduceEqDiff,Nat.reduceAdd,Nat.reduceSub,Nat.reduceMul,Nat.reduceLT,Nat.reduceLeDiff,reduceCtorEq,a_eq,a_neq,a_cast0,a_pred,a_app1,a_zero,Int.reduceToNat, pC]) ?_
      simp -dsimp(disch:=first|exact om|fail)only[go_sem,↓reduceIte,Nat.reduceEqDiff,Nat.reduceAdd,Nat.reduceSub,Nat.reduceMul,Nat.reduceLT,Nat.reduceLeDiff,reduceCtorEq,a_eq,a_neq,a_cast0,a_pred,a_app1,a_zero,Int.reduceToNat]
      refine callO' hb (.cons _ _ _ _ (.ref 0 0 _ _ rfl (.inl rfl) (leL_pC2 hf)) .nil) lF ?_
      simp -dsimp(disch:=first|exact om|fail)only[go_sem,↓reduceIte,Nat.reduceEqDiff,Nat.reduceAdd,Nat.reduceSub,Nat.reduceMul,Nat.reduceLT,Nat.reduceLeDiff,reduceCtorEq,a_eq,a_neq,a_cast0,a_pred,a_app1,a_zero,Int.reduceToNat]
theorem spec_HasSolution_c (f : Fl) (hf : f ≠ .u) (p : Prg) (hp : p.small) : PC PP F_spec_HasSolution [pV f p] (Bo (hasB p)) [] := by
  have q0 := spec_ProgramOk_c f hf p hp
  cases ho : okP' p
  · rw [ho] at q0
    rw [hasB_bad ho]
    refine tx W_spec_HasSolution ke_spec_HasSolution [] (by kernel_rfl) ?_
    simp -dsimp(disch:=first|exact om|fail)only[go_sem,↓reduceIte,Nat.reduceEqDiff,Nat.reduceAdd,Nat.reduceSub,Nat.reduceMul,Nat.reduceLT,Nat.reduceLeDiff,reduceCtorEq,a_eq,a_neq,a_cast0,a_pred,a_app1,a_zero,Int.reduceToNat, pC]
    refine callP q0 (by simp -dsimp(disch:=first|exact om|fail)only[go_sem,↓reduceIte,Nat.reduceEqDiff,Nat.reduceAdd,Nat.reduceSub,Nat.reduceMul,Nat.reduceLT,Nat.reduceLeDiff,reduceCtorEq,a_eq,a_neq,a_cast0,a_pred,a_app1,a_zero,Int.reduceToNat, pC]) ?_
    simp -dsimp(disch:=first|exact om|fail)only[go_sem,↓reduceIte,Nat.reduceEqDiff,Nat.reduceAdd,Nat.reduceSub,Nat.reduceMul,Nat.reduceLT,Nat.reduceLeDiff,reduceCtorEq,a_eq,a_neq,a_cast0,a_pred,a_app1,a_zero,Int.reduceToNat]
  · rw [ho] at q0
    obtain ⟨r, c, hr, hc⟩ : ∃ r c : Nat, p.rows = r ∧ p.cols = c := by
      obtain ⟨⟨r1, r2⟩, ⟨c1, c2⟩, _⟩ := okP_spec ho
      exact ⟨p.rows.toNat, p.cols.toNat, by omega, by omega⟩
    have h := PD.mk' ho hr hc
    have h20 := h.r20
    have h40 := h.c40
    obtain ⟨K1, t1, a1, a2, a3, a4, a5⟩ := h.end1
    have hβ0 : ∀ i, i < r → (fstS p r c).β i ≤ 60 := fun i hi => by show c + i ≤ 60; omega
    have hrun1 := l10Run_g r (c + r) (by omega) (by omega) false (fstS p r c) K1 hβ0 a1 a2
    have q1 := l10First_g f hf p r c ho hr hc
    generalize itS r (c + r) false (fstS p r c) K1 = s1 at *
    have e : hasB p = decide ((s1.cost (c + r)).num = 0) := by
      by_cases hz : (s1.cost (c + r)).num = 0
      · rw [decide_eq_true hz, hasB_yes ho (a4.1 hz)]
      · rw [decide_eq_false hz, hasB_no (fun hx => hz (a4.2 hx))]
    rw [e]
    clear e a1 a2 a3 a4 a5
    generalize fstS p r c = s0 at *
    simp only [pV, pC, hr, hc] at q0 q1 ⊢
    refine txe W_spec_HasSolution ke_spec_HasSolution [] [5] [4] (by kernel_rfl) ?_
    simp -dsimp(disch:=first|exact om|fail)only[go_sem,↓reduceIte,Nat.reduceEqDiff,Nat.reduceAdd,Nat.reduceSub,Nat.reduceMul,Nat.reduceLT,Nat.reduceLeDiff,reduceCtorEq,a_eq,a_neq,a_cast0,a_pred,a_app1,a_zero,Int.reduceToNat]
    refine callP q0 lL ?_
    simp -dsimp(disch:=first|exact om|fail)only[go_sem,↓reduceIte,Nat.reduceEqDiff,Nat.reduceAdd,Nat.reduceSub,Nat.reduceMul,Nat.reduceLT,Nat.reduceLeDiff,reduceCtorEq,a_eq,a_neq,a_cast0,a_pred,a_app1,a_zero,Int.reduceToNat]
    refine callO' q1 lL lF ?_
    simp -dsimp(disch:=first|exact om|fail)only[go_sem,↓reduceIte,Nat.reduceEqDiff,Nat.reduceAdd,Nat.reduceSub,Nat.reduceMul,Nat.reduceLT,Nat.reduceLeDiff,reduceCtorEq,a_eq,a_neq,a_cast0,a_pred,a_app1,a_zero,Int.reduceToNat]
    refine callG' [1] hrun1 (by decide) lL lL lE lF ?_
    simp -dsimp(disch:=first|exact om|fail)only[go_sem,↓reduceIte,Nat.reduceEqDiff,Nat.reduceAdd,Nat.reduceSub,Nat.reduceMul,Nat.reduceLT,Nat.reduceLeDiff,reduceCtorEq,a_eq,a_neq,a_cast0,a_pred,a_app1,a_zero,Int.reduceToNat]
    refine ⟨⟨[(3, .ref 0 0)], [⟨.own, T_spec_l10Tab, [I ((c + r : Nat) : Int), .sl .u 1 r (rwS .u r (c + r + 1) s1.M), .sl .u 1 r (iC (bL r s1.β)), .rsl 1 3 0 (c + r + 1)]⟩, rwO (c + r + 1) s1.cost]⟩, ?_, ?_⟩
    · refine (StI.ren (H' := [tabO r (c + r) s1]) [some 1] [[]] lE (by decide) lW ?_).trans (StI.open (H := [tabO r (c + r) s1]) 0 3 (ty := T_spec_l10Tab) (cs := tbS .u r (c + r) s1) (cs0 := rsC .s ((rowQ (c + r + 1) s1.cost).map qd)) (sz := 3) (n := c + r + 1) rfl rfl T_impl_Rat)
      simp -dsimp(disch:=first|exact om|fail)only[go_sem,↓reduceIte,Nat.reduceEqDiff,Nat.reduceAdd,Nat.reduceSub,Nat.reduceMul,Nat.reduceLT,Nat.reduceLeDiff,reduceCtorEq,a_eq,a_neq,a_cast0,a_pred,a_app1,a_zero,Int.reduceToNat]
    simp -dsimp(disch:=first|exact om|fail)only[go_sem,↓reduceIte,Nat.reduceEqDiff,Nat.reduceAdd,Nat.reduceSub,Nat.reduceMul,Nat.reduceLT,Nat.reduceLeDiff,reduceCtorEq,a_eq,a_neq,a_cast0,a_pred,a_app1,a_zero,Int.reduceToNat]
    refine callP (sgn_c (s1.cost (c + r))) lL ?_
    by_cases hz : (s1.cost (c + r)).num = 0
    · have e1 : sgZ (s1.cost (c + r)).num = 0 := sgZ_zero.2 hz
      rw [decide_eq_true hz]
      simp -dsimp(disch:=first|exact om|fail)only[go_sem,↓reduceIte,Nat.reduceEqDiff,Nat.reduceAdd,Nat.reduceSub,Nat.reduceMul,Nat.reduceLT,Nat.reduceLeDiff,reduceCtorEq,a_eq,a_neq,a_cast0,a_pred,a_app1,a_zero,Int.reduceToNat, e1]
    · have e1 : ¬ sgZ (s1.cost (c + r)).num = 0 := fun q => hz (sgZ_zero.1 q)
      rw [decide_eq_false hz]
      simp -dsimp(disch:=first|exact om|fail)only[go_sem,↓reduceIte,Nat.reduceEqDiff,Nat.reduceAdd,Nat.reduceSub,Nat.reduceMul,Nat.reduceLT,Nat.reduceLeDiff,reduceCtorEq,a_eq,a_neq,a_cast0,a_pred,a_app1,a_zero,Int.reduceToNat, e1]
end Go.Proofs.Ytchlpclgkhggeaa
