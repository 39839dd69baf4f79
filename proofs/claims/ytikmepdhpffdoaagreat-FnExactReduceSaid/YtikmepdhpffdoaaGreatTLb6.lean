/- part of the proof -/
import Derived.Test.YtikmepdhpffdoaaGreatTXu
import Derived.Test.YtikmepdhpffdoaaGreatTGr
import Derived.Test.YtikmepdhpffdoaaGreatTLa6
namespace Go.Proofs.YtikmepdhpffdoaaGreat
open Go Go.RowKit
set_option maxRecDepth 100000
set_option maxHeartbeats 4000000
set_option linter.unusedVariables false
set_option linter.unusedSimpArgs false
theorem spec_Reduce_s (p0 : MD) (h0 : smallL p0.cells) : PC PP F_spec_Reduce [mtV .s p0] (.tup [mtV .s (redR p0).1, sI .s (redR p0).2.1, Bo (redR p0).2.2]) [] := spec_Reduce_c p0 .s fls h0
theorem impl_Reduce_i (f : Fl) (hf : f ≠ .u) (p0 : MD) (h0 : smallL p0.cells) : GC PP F_impl_Reduce [mtV f p0] [] (.tup [mtO (redR p0).1, .rsl 1 1 0 (redR p0).2.1.length, Bo (redR p0).2.2]) [⟨.own, T_impl_Rat, rsC .u (redR p0).1.cells⟩, ⟨.own, T_int, iC (redR p0).2.1⟩] := impl_Reduce_g p0 f hf h0
theorem Reduce_W (p0 : MD) (h0 : smallL p0.cells) : (smallL (redR p0).1.cells ∧ szL (redR p0).1.cells ≤ 100000) ∧ (redR p0).2.1.length ≤ 1048576 ∧ (redR p0).2.1.length ≤ 100000 := by
  unfold redR
  split
  · rename_i ho
    obtain ⟨r, c, hg⟩ := MD.ok_good ho
    have e1 : p0.rows.toNat = r := by rw [hg.er]; rfl
    have e2 : p0.cols.toNat = c := by rw [hg.ec]; rfl
    rw [e1, e2]
    have h := redQ_len (r := r) (c := c) (M := p0.at c)
    have hrc := rc_le hg.r24 hg.c24
    have hc := hg.c24
    refine ⟨?_, by omega, by omega⟩
    unfold redQ
    split
    · exact qdl_small (by rw [gridL_length]; omega)
    · exact okl_small (by simp [noRd, MD.zero]) (by simp [noRd, MD.zero])
  · exact ⟨okl_small (by simp [noRd, MD.zero]) (by simp [noRd, MD.zero]), by simp [noRd], by simp [noRd]⟩
theorem FnExactReduce_c (f : Fl) (hf : f ≠ .u) (p0 : MD) (g0 : fitL p0.cells) : PC PP F_laws_FnExactReduce [mtV f p0] (Bo true) [] := by
  have hz0 := szMatrix_c f hf p0 1048576 g0 (by omega)
  have hb0 := szI_rng (n := 1048576) (k := szL p0.cells) (by omega)
  have hs0 : 0 ≤ szI 1048576 (szL p0.cells) → smallL p0.cells ∧ szL p0.cells ≤ 1048576 := fun h => ⟨smallL_of (szI_small (by omega) h), szI_small (by omega) h⟩
  generalize szI 1048576 (szL p0.cells) = z0 at *
  refine txe W_laws_FnExactReduce ke_laws_FnExactReduce [] [] [13, 17, 18] (by kernel_rfl) ?_
  simp -dsimp(disch:=first|exact om|fail)only[go_sem,↓reduceIte,Nat.reduceEqDiff,Nat.reduceAdd,Nat.reduceSub,Nat.reduceMul,Nat.reduceLT,Nat.reduceLeDiff,reduceCtorEq,a_eq,a_neq,a_cast0,a_pred,a_app1,a_zero,Int.reduceToNat]
  refine callP hz0 lL ?_
  simp -dsimp(disch:=first|exact om|fail)only[go_sem,↓reduceIte,Nat.reduceEqDiff,Nat.reduceAdd,Nat.reduceSub,Nat.reduceMul,Nat.reduceLT,Nat.reduceLeDiff,reduceCtorEq,a_eq,a_neq,a_cast0,a_pred,a_app1,a_zero,Int.reduceToNat]
  intro qp0
  obtain ⟨s0, s0k⟩ := hs0 (by omega)
  refine callP (toMatrix_c f hf p0 s0) lL ?_
  simp -dsimp(disch:=first|exact om|fail)only[go_sem,↓reduceIte,Nat.reduceEqDiff,Nat.reduceAdd,Nat.reduceSub,Nat.reduceMul,Nat.reduceLT,Nat.reduceLeDiff,reduceCtorEq,a_eq,a_neq,a_cast0,a_pred,a_app1,a_zero,Int.reduceToNat]
  refine callP (spec_Reduce_s p0 s0) lL ?_
  simp -dsimp(disch:=first|exact om|fail)only[go_sem,↓reduceIte,Nat.reduceEqDiff,Nat.reduceAdd,Nat.reduceSub,Nat.reduceMul,Nat.reduceLT,Nat.reduceLeDiff,reduceCtorEq,a_eq,a_neq,a_cast0,a_pred,a_app1,a_zero,Int.reduceToNat]
  refine callO' (toMatrixO_c f hf p0 s0) lL lF ?_
  simp -dsimp(disch:=first|exact om|fail)only[go_sem,↓reduceIte,Nat.reduceEqDiff,Nat.reduceAdd,Nat.reduceSub,Nat.reduceMul,Nat.reduceLT,Nat.reduceLeDiff,reduceCtorEq,a_eq,a_neq,a_cast0,a_pred,a_app1,a_zero,Int.reduceToNat]
  have hig := impl_Reduce_i .b flb p0 s0
  have his := impl_Reduce_i .s fls p0 s0
  obtain ⟨⟨hSw0, hKw0⟩, hSw1, hKw1⟩ := Reduce_W p0 s0
  generalize (redR p0).1 = w0 at *
  generalize (redR p0).2.1 = w1 at *
  generalize (redR p0).2.2 = w2 at *
  refine callO' hig lL lF ?_
  simp -dsimp(disch:=first|exact om|fail)only[go_sem,↓reduceIte,Nat.reduceEqDiff,Nat.reduceAdd,Nat.reduceSub,Nat.reduceMul,Nat.reduceLT,Nat.reduceLeDiff,reduceCtorEq,a_eq,a_neq,a_cast0,a_pred,a_app1,a_zero,Int.reduceToNat]
  refine callP (eqMatrix_c .b .s flb fls w0 hSw0) lL ?_
  simp -dsimp(disch:=first|exact om|fail)only[go_sem,↓reduceIte,Nat.reduceEqDiff,Nat.reduceAdd,Nat.reduceSub,Nat.reduceMul,Nat.reduceLT,Nat.reduceLeDiff,reduceCtorEq,a_eq,a_neq,a_cast0,a_pred,a_app1,a_zero,Int.reduceToNat, bne_self_eq_false]
  refine callP (eqIntS_c .b .s flb fls w1 w1 (by omega)) lL ?_
  simp -dsimp(disch:=first|exact om|fail)only[go_sem,↓reduceIte,Nat.reduceEqDiff,Nat.reduceAdd,Nat.reduceSub,Nat.reduceMul,Nat.reduceLT,Nat.reduceLeDiff,reduceCtorEq,a_eq,a_neq,a_cast0,a_pred,a_app1,a_zero,Int.reduceToNat, bne_self_eq_false]
  refine callP (toMatrix_c f hf p0 s0) lL ?_
  simp -dsimp(disch:=first|exact om|fail)only[go_sem,↓reduceIte,Nat.reduceEqDiff,Nat.reduceAdd,Nat.reduceSub,Nat.reduceMul,Nat.reduceLT,Nat.reduceLeDiff,reduceCtorEq,a_eq,a_neq,a_cast0,a_pred,a_app1,a_zero,Int.reduceToNat]
  refine callP (eqMatrix_c .b .s flb fls p0 s0) lL ?_
  simp -dsimp(disch:=first|exact om|fail)only[go_sem,↓reduceIte,Nat.reduceEqDiff,Nat.reduceAdd,Nat.reduceSub,Nat.reduceMul,Nat.reduceLT,Nat.reduceLeDiff,reduceCtorEq,a_eq,a_neq,a_cast0,a_pred,a_app1,a_zero,Int.reduceToNat]
  refine callG' [2] (markMatrix_c p0 (1) s0 (by omega) (by omega)) (by decide) lL lL lE lF ?_
  simp -dsimp(disch:=first|exact om|fail)only[go_sem,↓reduceIte,Nat.reduceEqDiff,Nat.reduceAdd,Nat.reduceSub,Nat.reduceMul,Nat.reduceLT,Nat.reduceLeDiff,reduceCtorEq,a_eq,a_neq,a_cast0,a_pred,a_app1,a_zero,Int.reduceToNat]
  refine callP (eqMatrix_c .b .s flb fls w0 hSw0) lL ?_
  simp -dsimp(disch:=first|exact om|fail)only[go_sem,↓reduceIte,Nat.reduceEqDiff,Nat.reduceAdd,Nat.reduceSub,Nat.reduceMul,Nat.reduceLT,Nat.reduceLeDiff,reduceCtorEq,a_eq,a_neq,a_cast0,a_pred,a_app1,a_zero,Int.reduceToNat, bne_self_eq_false]
  refine callP (eqIntS_c .b .s flb fls w1 w1 (by omega)) lL ?_
  simp -dsimp(disch:=first|exact om|fail)only[go_sem,↓reduceIte,Nat.reduceEqDiff,Nat.reduceAdd,Nat.reduceSub,Nat.reduceMul,Nat.reduceLT,Nat.reduceLeDiff,reduceCtorEq,a_eq,a_neq,a_cast0,a_pred,a_app1,a_zero,Int.reduceToNat, bne_self_eq_false]
  refine callG' [4] (markMatrix_c w0 (1) hSw0 (by omega) (by omega)) (by decide) lL lL lE lF ?_
  simp -dsimp(disch:=first|exact om|fail)only[go_sem,↓reduceIte,Nat.reduceEqDiff,Nat.reduceAdd,Nat.reduceSub,Nat.reduceMul,Nat.reduceLT,Nat.reduceLeDiff,reduceCtorEq,a_eq,a_neq,a_cast0,a_pred,a_app1,a_zero,Int.reduceToNat]
  refine callG' [5] (markIntS_c T_int w1 (1 + (szL w0.cells : Nat)) (by omega) (by omega)) (by decide) lL lL lE lF ?_
  simp -dsimp(disch:=first|exact om|fail)only[go_sem,↓reduceIte,Nat.reduceEqDiff,Nat.reduceAdd,Nat.reduceSub,Nat.reduceMul,Nat.reduceLT,Nat.reduceLeDiff,reduceCtorEq,a_eq,a_neq,a_cast0,a_pred,a_app1,a_zero,Int.reduceToNat]
  have hhw0 := heldMatrix_m .b flb w0 (1) hSw0 (by omega) (by omega)
  refine callP hhw0 lL ?_
  simp -dsimp(disch:=first|exact om|fail)only[go_sem,↓reduceIte,Nat.reduceEqDiff,Nat.reduceAdd,Nat.reduceSub,Nat.reduceMul,Nat.reduceLT,Nat.reduceLeDiff,reduceCtorEq,a_eq,a_neq,a_cast0,a_pred,a_app1,a_zero,Int.reduceToNat]
  have hhw1 := heldIntS_c .b flb (marks (1 + (szL w0.cells : Nat)) w1.length) (1 + (szL w0.cells : Nat)) (by rw [marks_length]; omega) (by omega)
  rw [heldI_marks] at hhw1
  refine callP hhw1 lL ?_
  simp -dsimp(disch:=first|exact om|fail)only[go_sem,↓reduceIte,Nat.reduceEqDiff,Nat.reduceAdd,Nat.reduceSub,Nat.reduceMul,Nat.reduceLT,Nat.reduceLeDiff,reduceCtorEq,a_eq,a_neq,a_cast0,a_pred,a_app1,a_zero,Int.reduceToNat]
  refine callP (toMatrix_c f hf p0 s0) lL ?_
  simp -dsimp(disch:=first|exact om|fail)only[go_sem,↓reduceIte,Nat.reduceEqDiff,Nat.reduceAdd,Nat.reduceSub,Nat.reduceMul,Nat.reduceLT,Nat.reduceLeDiff,reduceCtorEq,a_eq,a_neq,a_cast0,a_pred,a_app1,a_zero,Int.reduceToNat]
  refine callO' his lL lF ?_
  simp -dsimp(disch:=first|exact om|fail)only[go_sem,↓reduceIte,Nat.reduceEqDiff,Nat.reduceAdd,Nat.reduceSub,Nat.reduceMul,Nat.reduceLT,Nat.reduceLeDiff,reduceCtorEq,a_eq,a_neq,a_cast0,a_pred,a_app1,a_zero,Int.reduceToNat]
  refine callP (eqMatrix_c .b .s flb fls w0 hSw0) lL ?_
  simp -dsimp(disch:=first|exact om|fail)only[go_sem,↓reduceIte,Nat.reduceEqDiff,Nat.reduceAdd,Nat.reduceSub,Nat.reduceMul,Nat.reduceLT,Nat.reduceLeDiff,reduceCtorEq,a_eq,a_neq,a_cast0,a_pred,a_app1,a_zero,Int.reduceToNat, bne_self_eq_false]
  refine callP (eqIntS_c .b .s flb fls w1 w1 (by omega)) lL ?_
  simp -dsimp(disch:=first|exact om|fail)only[go_sem,↓reduceIte,Nat.reduceEqDiff,Nat.reduceAdd,Nat.reduceSub,Nat.reduceMul,Nat.reduceLT,Nat.reduceLeDiff,reduceCtorEq,a_eq,a_neq,a_cast0,a_pred,a_app1,a_zero,Int.reduceToNat, bne_self_eq_false]
  refine callP hhw0 lL ?_
  simp -dsimp(disch:=first|exact om|fail)only[go_sem,↓reduceIte,Nat.reduceEqDiff,Nat.reduceAdd,Nat.reduceSub,Nat.reduceMul,Nat.reduceLT,Nat.reduceLeDiff,reduceCtorEq,a_eq,a_neq,a_cast0,a_pred,a_app1,a_zero,Int.reduceToNat]
  refine callP hhw1 lL ?_
  simp -dsimp(disch:=first|exact om|fail)only[go_sem,↓reduceIte,Nat.reduceEqDiff,Nat.reduceAdd,Nat.reduceSub,Nat.reduceMul,Nat.reduceLT,Nat.reduceLeDiff,reduceCtorEq,a_eq,a_neq,a_cast0,a_pred,a_app1,a_zero,Int.reduceToNat]
end Go.Proofs.YtikmepdhpffdoaaGreat
