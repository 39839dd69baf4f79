/- part of the proof -/
import Derived.Test.YtikmepdhpffdoaaGreatTYg
import Derived.Test.YtikmepdhpffdoaaGreatTGr
import Derived.Test.YtikmepdhpffdoaaGreatTLa6
namespace Go.Proofs.YtikmepdhpffdoaaGreat
open Go Go.RowKit
set_option maxRecDepth 100000
set_option maxHeartbeats 4000000
set_option linter.unusedVariables false
set_option linter.unusedSimpArgs false
theorem spec_Factor_s (p0 : MD) (h0 : smallL p0.cells) : PC PP F_spec_Factor [mtV .s p0] (faS (facR p0)) [] := spec_Factor_c p0 h0
theorem impl_Factor_i (f : Fl) (hf : f ≠ .u) (p0 : MD) (h0 : smallL p0.cells) : GC PP F_impl_Factor [mtV f p0] [] (.tup [mtO (facR p0).1, .rsl 1 3 0 ((facR p0).2.1.map qd).length, Bo (facR p0).2.2]) [⟨.own, T_impl_Rat, rsC .u (facR p0).1.cells⟩, ⟨.own, T_impl_Rat, rsC .u ((facR p0).2.1.map qd)⟩] := by
  rw [List.length_map]; exact impl_Factor_g p0 f hf h0
theorem Factor_W (p0 : MD) (h0 : smallL p0.cells) : (smallL (facR p0).1.cells ∧ szL (facR p0).1.cells ≤ 100000) ∧ smallL ((facR p0).2.1.map qd) ∧ szL ((facR p0).2.1.map qd) ≤ 100000 := facR_small p0
theorem FnExactFactor_c (f : Fl) (hf : f ≠ .u) (p0 : MD) (g0 : fitL p0.cells) : PC PP F_laws_FnExactFactor [mtV f p0] (Bo true) [] := by
  have hz0 := szMatrix_c f hf p0 1048576 g0 (by omega)
  have hb0 := szI_rng (n := 1048576) (k := szL p0.cells) (by omega)
  have hs0 : 0 ≤ szI 1048576 (szL p0.cells) → smallL p0.cells ∧ szL p0.cells ≤ 1048576 := fun h => ⟨smallL_of (szI_small (by omega) h), szI_small (by omega) h⟩
  generalize szI 1048576 (szL p0.cells) = z0 at *
  refine txe W_laws_FnExactFactor ke_laws_FnExactFactor [] [] [13, 17, 18] (by kernel_rfl) ?_
  simp -dsimp(disch:=first|exact om|fail)only[go_sem,↓reduceIte,Nat.reduceEqDiff,Nat.reduceAdd,Nat.reduceSub,Nat.reduceMul,Nat.reduceLT,Nat.reduceLeDiff,reduceCtorEq,a_eq,a_neq,a_cast0,a_pred,a_app1,a_zero,Int.reduceToNat]
  refine callP hz0 lL ?_
  simp -dsimp(disch:=first|exact om|fail)only[go_sem,↓reduceIte,Nat.reduceEqDiff,Nat.reduceAdd,Nat.reduceSub,Nat.reduceMul,Nat.reduceLT,Nat.reduceLeDiff,reduceCtorEq,a_eq,a_neq,a_cast0,a_pred,a_app1,a_zero,Int.reduceToNat]
  intro qp0
  obtain ⟨s0, s0k⟩ := hs0 (by omega)
  refine callP (toMatrix_c f hf p0 s0) lL ?_
  simp -dsimp(disch:=first|exact om|fail)only[go_sem,↓reduceIte,Nat.reduceEqDiff,Nat.reduceAdd,Nat.reduceSub,Nat.reduceMul,Nat.reduceLT,Nat.reduceLeDiff,reduceCtorEq,a_eq,a_neq,a_cast0,a_pred,a_app1,a_zero,Int.reduceToNat]
  refine callP (spec_Factor_s p0 s0) lL ?_
  simp -dsimp(disch:=first|exact om|fail)only[go_sem,↓reduceIte,Nat.reduceEqDiff,Nat.reduceAdd,Nat.reduceSub,Nat.reduceMul,Nat.reduceLT,Nat.reduceLeDiff,reduceCtorEq,a_eq,a_neq,a_cast0,a_pred,a_app1,a_zero,Int.reduceToNat]
  refine callO' (toMatrixO_c f hf p0 s0) lL lF ?_
  simp -dsimp(disch:=first|exact om|fail)only[go_sem,↓reduceIte,Nat.reduceEqDiff,Nat.reduceAdd,Nat.reduceSub,Nat.reduceMul,Nat.reduceLT,Nat.reduceLeDiff,reduceCtorEq,a_eq,a_neq,a_cast0,a_pred,a_app1,a_zero,Int.reduceToNat]
  have hig := impl_Factor_i .b flb p0 s0
  have his := impl_Factor_i .s fls p0 s0
  obtain ⟨⟨hSw0, hKw0⟩, hSw1, hKw1⟩ := Factor_W p0 s0
  generalize (facR p0).1 = w0 at *
  generalize (facR p0).2.1.map qd = w1 at *
  generalize (facR p0).2.2 = w2 at *
  refine callO' hig lL lF ?_
  simp -dsimp(disch:=first|exact om|fail)only[go_sem,↓reduceIte,Nat.reduceEqDiff,Nat.reduceAdd,Nat.reduceSub,Nat.reduceMul,Nat.reduceLT,Nat.reduceLeDiff,reduceCtorEq,a_eq,a_neq,a_cast0,a_pred,a_app1,a_zero,Int.reduceToNat]
  refine callP (eqMatrix_c .b .s flb fls w0 hSw0) lL ?_
  simp -dsimp(disch:=first|exact om|fail)only[go_sem,↓reduceIte,Nat.reduceEqDiff,Nat.reduceAdd,Nat.reduceSub,Nat.reduceMul,Nat.reduceLT,Nat.reduceLeDiff,reduceCtorEq,a_eq,a_neq,a_cast0,a_pred,a_app1,a_zero,Int.reduceToNat, bne_self_eq_false]
  refine callP (eqRatS_c .b .s flb fls w1 w1 hSw1) lL ?_
  simp -dsimp(disch:=first|exact om|fail)only[go_sem,↓reduceIte,Nat.reduceEqDiff,Nat.reduceAdd,Nat.reduceSub,Nat.reduceMul,Nat.reduceLT,Nat.reduceLeDiff,reduceCtorEq,a_eq,a_neq,a_cast0,a_pred,a_app1,a_zero,Int.reduceToNat, bne_self_eq_false]
  refine callP (toMatrix_c f hf p0 s0) lL ?_
  simp -dsimp(disch:=first|exact om|fail)only[go_sem,↓reduceIte,Nat.reduceEqDiff,Nat.reduceAdd,Nat.reduceSub,Nat.reduceMul,Nat.reduceLT,Nat.reduceLeDiff,reduceCtorEq,a_eq,a_neq,a_cast0,a_pred,a_app1,a_zero,Int.reduceToNat]
  refine callP (eqMatrix_c .b .s flb fls p0 s0) lL ?_
  simp -dsimp(disch:=first|exact om|fail)only[go_sem,↓reduceIte,Nat.reduceEqDiff,Nat.reduceAdd,Nat.reduceSub,Nat.reduceMul,Nat.reduceLT,Nat.reduceLeDiff,reduceCtorEq,a_eq,a_neq,a_cast0,a_pred,a_app1,a_zero,Int.reduceToNat]
  refine callG' [2] (markMatrix_c p0 (1) s0 (by omega) (by omega)) (by decide) lL lL lE lF ?_
  simp -dsimp(disch:=first|exact om|fail)only[go_sem,↓reduceIte,Nat.reduceEqDiff,Nat.reduceAdd,Nat.reduceSub,Nat.reduceMul,Nat.reduceLT,Nat.reduceLeDiff,reduceCtorEq,a_eq,a_neq,a_cast0,a_pred,a_app1,a_zero,Int.reduceToNat]
  refine callP (eqMatrix_c .b .s flb fls w0 hSw0) lL ?_
  simp -dsimp(disch:=first|exact om|fail)only[go_sem,↓reduceIte,Nat.reduceEqDiff,Nat.reduceAdd,Nat.reduceSub,Nat.reduceMul,Nat.reduceLT,Nat.reduceLeDiff,reduceCtorEq,a_eq,a_neq,a_cast0,a_pred,a_app1,a_zero,Int.reduceToNat, bne_self_eq_false]
  refine callP (eqRatS_c .b .s flb fls w1 w1 hSw1) lL ?_
  simp -dsimp(disch:=first|exact om|fail)only[go_sem,↓reduceIte,Nat.reduceEqDiff,Nat.reduceAdd,Nat.reduceSub,Nat.reduceMul,Nat.reduceLT,Nat.reduceLeDiff,reduceCtorEq,a_eq,a_neq,a_cast0,a_pred,a_app1,a_zero,Int.reduceToNat, bne_self_eq_false]
  refine callG' [4] (markMatrix_c w0 (1) hSw0 (by omega) (by omega)) (by decide) lL lL lE lF ?_
  simp -dsimp(disch:=first|exact om|fail)only[go_sem,↓reduceIte,Nat.reduceEqDiff,Nat.reduceAdd,Nat.reduceSub,Nat.reduceMul,Nat.reduceLT,Nat.reduceLeDiff,reduceCtorEq,a_eq,a_neq,a_cast0,a_pred,a_app1,a_zero,Int.reduceToNat]
  refine callG' [5] (markRatS_c w1 (1 + (szL w0.cells : Nat)) hSw1 (by omega) (by omega)) (by decide) lL lL lE lF ?_
  simp -dsimp(disch:=first|exact om|fail)only[go_sem,↓reduceIte,Nat.reduceEqDiff,Nat.reduceAdd,Nat.reduceSub,Nat.reduceMul,Nat.reduceLT,Nat.reduceLeDiff,reduceCtorEq,a_eq,a_neq,a_cast0,a_pred,a_app1,a_zero,Int.reduceToNat]
  have hhw0 := heldMatrix_m .b flb w0 (1) hSw0 (by omega) (by omega)
  refine callP hhw0 lL ?_
  simp -dsimp(disch:=first|exact om|fail)only[go_sem,↓reduceIte,Nat.reduceEqDiff,Nat.reduceAdd,Nat.reduceSub,Nat.reduceMul,Nat.reduceLT,Nat.reduceLeDiff,reduceCtorEq,a_eq,a_neq,a_cast0,a_pred,a_app1,a_zero,Int.reduceToNat]
  have hhw1 := heldRatS_m .b flb w1 (1 + (szL w0.cells : Nat)) hSw1 (by omega) (by omega)
  refine callP hhw1 lL ?_
  simp -dsimp(disch:=first|exact om|fail)only[go_sem,↓reduceIte,Nat.reduceEqDiff,Nat.reduceAdd,Nat.reduceSub,Nat.reduceMul,Nat.reduceLT,Nat.reduceLeDiff,reduceCtorEq,a_eq,a_neq,a_cast0,a_pred,a_app1,a_zero,Int.reduceToNat]
  refine callP (toMatrix_c f hf p0 s0) lL ?_
  simp -dsimp(disch:=first|exact om|fail)only[go_sem,↓reduceIte,Nat.reduceEqDiff,Nat.reduceAdd,Nat.reduceSub,Nat.reduceMul,Nat.reduceLT,Nat.reduceLeDiff,reduceCtorEq,a_eq,a_neq,a_cast0,a_pred,a_app1,a_zero,Int.reduceToNat]
  refine callO' his lL lF ?_
  simp -dsimp(disch:=first|exact om|fail)only[go_sem,↓reduceIte,Nat.reduceEqDiff,Nat.reduceAdd,Nat.reduceSub,Nat.reduceMul,Nat.reduceLT,Nat.reduceLeDiff,reduceCtorEq,a_eq,a_neq,a_cast0,a_pred,a_app1,a_zero,Int.reduceToNat]
  refine callP (eqMatrix_c .b .s flb fls w0 hSw0) lL ?_
  simp -dsimp(disch:=first|exact om|fail)only[go_sem,↓reduceIte,Nat.reduceEqDiff,Nat.reduceAdd,Nat.reduceSub,Nat.reduceMul,Nat.reduceLT,Nat.reduceLeDiff,reduceCtorEq,a_eq,a_neq,a_cast0,a_pred,a_app1,a_zero,Int.reduceToNat, bne_self_eq_false]
  refine callP (eqRatS_c .b .s flb fls w1 w1 hSw1) lL ?_
  simp -dsimp(disch:=first|exact om|fail)only[go_sem,↓reduceIte,Nat.reduceEqDiff,Nat.reduceAdd,Nat.reduceSub,Nat.reduceMul,Nat.reduceLT,Nat.reduceLeDiff,reduceCtorEq,a_eq,a_neq,a_cast0,a_pred,a_app1,a_zero,Int.reduceToNat, bne_self_eq_false]
  refine callP hhw0 lL ?_
  simp -dsimp(disch:=first|exact om|fail)only[go_sem,↓reduceIte,Nat.reduceEqDiff,Nat.reduceAdd,Nat.reduceSub,Nat.reduceMul,Nat.reduceLT,Nat.reduceLeDiff,reduceCtorEq,a_eq,a_neq,a_cast0,a_pred,a_app1,a_zero,Int.reduceToNat]
  refine callP hhw1 lL ?_
  simp -dsimp(disch:=first|exact om|fail)only[go_sem,↓reduceIte,Nat.reduceEqDiff,Nat.reduceAdd,Nat.reduceSub,Nat.reduceMul,Nat.reduceLT,Nat.reduceLeDiff,reduceCtorEq,a_eq,a_neq,a_cast0,a_pred,a_app1,a_zero,Int.reduceToNat]
theorem spec_IsPositive_s (p0 : MD) (h0 : smallL p0.cells) : PC PP F_spec_IsPositive [mtV .s p0] (Bo (facR p0).2.2) [] := spec_IsPositive_c p0 h0
theorem impl_IsPositive_i (f : Fl) (hf : f ≠ .u) (p0 : MD) (h0 : smallL p0.cells) : GC PP F_impl_IsPositive [mtV f p0] [] (Bo (facR p0).2.2) [] := (impl_IsPositive_c p0 f hf h0).gc
theorem FnExactIsPositive_c (f : Fl) (hf : f ≠ .u) (p0 : MD) (g0 : fitL p0.cells) : PC PP F_laws_FnExactIsPositive [mtV f p0] (Bo true) [] := by
  have hz0 := szMatrix_c f hf p0 1048576 g0 (by omega)
  have hb0 := szI_rng (n := 1048576) (k := szL p0.cells) (by omega)
  have hs0 : 0 ≤ szI 1048576 (szL p0.cells) → smallL p0.cells ∧ szL p0.cells ≤ 1048576 := fun h => ⟨smallL_of (szI_small (by omega) h), szI_small (by omega) h⟩
  generalize szI 1048576 (szL p0.cells) = z0 at *
  refine txe W_laws_FnExactIsPositive ke_laws_FnExactIsPositive [] [] [] (by kernel_rfl) ?_
  simp -dsimp(disch:=first|exact om|fail)only[go_sem,↓reduceIte,Nat.reduceEqDiff,Nat.reduceAdd,Nat.reduceSub,Nat.reduceMul,Nat.reduceLT,Nat.reduceLeDiff,reduceCtorEq,a_eq,a_neq,a_cast0,a_pred,a_app1,a_zero,Int.reduceToNat]
  refine callP hz0 lL ?_
  simp -dsimp(disch:=first|exact om|fail)only[go_sem,↓reduceIte,Nat.reduceEqDiff,Nat.reduceAdd,Nat.reduceSub,Nat.reduceMul,Nat.reduceLT,Nat.reduceLeDiff,reduceCtorEq,a_eq,a_neq,a_cast0,a_pred,a_app1,a_zero,Int.reduceToNat]
  intro qp0
  obtain ⟨s0, s0k⟩ := hs0 (by omega)
  refine callP (toMatrix_c f hf p0 s0) lL ?_
  simp -dsimp(disch:=first|exact om|fail)only[go_sem,↓reduceIte,Nat.reduceEqDiff,Nat.reduceAdd,Nat.reduceSub,Nat.reduceMul,Nat.reduceLT,Nat.reduceLeDiff,reduceCtorEq,a_eq,a_neq,a_cast0,a_pred,a_app1,a_zero,Int.reduceToNat]
  refine callP (spec_IsPositive_s p0 s0) lL ?_
  simp -dsimp(disch:=first|exact om|fail)only[go_sem,↓reduceIte,Nat.reduceEqDiff,Nat.reduceAdd,Nat.reduceSub,Nat.reduceMul,Nat.reduceLT,Nat.reduceLeDiff,reduceCtorEq,a_eq,a_neq,a_cast0,a_pred,a_app1,a_zero,Int.reduceToNat]
  refine callO' (toMatrixO_c f hf p0 s0) lL lF ?_
  simp -dsimp(disch:=first|exact om|fail)only[go_sem,↓reduceIte,Nat.reduceEqDiff,Nat.reduceAdd,Nat.reduceSub,Nat.reduceMul,Nat.reduceLT,Nat.reduceLeDiff,reduceCtorEq,a_eq,a_neq,a_cast0,a_pred,a_app1,a_zero,Int.reduceToNat]
  have hig := impl_IsPositive_i .b flb p0 s0
  have his := impl_IsPositive_i .s fls p0 s0
  generalize (facR p0).2.2 = w0 at *
  refine callO' hig lL lF ?_
  simp -dsimp(disch:=first|exact om|fail)only[go_sem,↓reduceIte,Nat.reduceEqDiff,Nat.reduceAdd,Nat.reduceSub,Nat.reduceMul,Nat.reduceLT,Nat.reduceLeDiff,reduceCtorEq,a_eq,a_neq,a_cast0,a_pred,a_app1,a_zero,Int.reduceToNat, bne_self_eq_false]
  refine callP (toMatrix_c f hf p0 s0) lL ?_
  simp -dsimp(disch:=first|exact om|fail)only[go_sem,↓reduceIte,Nat.reduceEqDiff,Nat.reduceAdd,Nat.reduceSub,Nat.reduceMul,Nat.reduceLT,Nat.reduceLeDiff,reduceCtorEq,a_eq,a_neq,a_cast0,a_pred,a_app1,a_zero,Int.reduceToNat]
  refine callP (eqMatrix_c .b .s flb fls p0 s0) lL ?_
  simp -dsimp(disch:=first|exact om|fail)only[go_sem,↓reduceIte,Nat.reduceEqDiff,Nat.reduceAdd,Nat.reduceSub,Nat.reduceMul,Nat.reduceLT,Nat.reduceLeDiff,reduceCtorEq,a_eq,a_neq,a_cast0,a_pred,a_app1,a_zero,Int.reduceToNat]
end Go.Proofs.YtikmepdhpffdoaaGreat
