/- part of the proof -/
import Derived.Test.YtikmepdhpffdoaaGreatTXt
import Derived.Test.YtikmepdhpffdoaaGreatTGr
import Derived.Test.YtikmepdhpffdoaaGreatTLa6
namespace Go.Proofs.YtikmepdhpffdoaaGreat
open Go Go.RowKit
set_option maxRecDepth 100000
set_option maxHeartbeats 4000000
set_option linter.unusedVariables false
set_option linter.unusedSimpArgs false
theorem spec_Determinant_s (p0 : MD) (h0 : smallL p0.cells) : PC PP F_spec_Determinant [mtV .s p0] (.tup [rV .s (qd (detQ p0)), Bo (detQ p0).good]) [] := spec_Determinant_c p0 .s fls h0
theorem impl_Determinant_i (f : Fl) (hf : f ≠ .u) (p0 : MD) (h0 : smallL p0.cells) : GC PP F_impl_Determinant [mtV f p0] [] (.tup [rO (qd (detQ p0)), Bo (detQ p0).good]) (rH (qd (detQ p0))) := impl_Determinant_g p0 f hf h0
theorem Determinant_W (p0 : MD) (h0 : smallL p0.cells) : (qd (detQ p0)).small ∧ (qd (detQ p0)).sz ≤ 100000 := ⟨qd_small _, by have := qd_sz (detQ p0); omega⟩
theorem FnExactDeterminant_c (f : Fl) (hf : f ≠ .u) (p0 : MD) (g0 : fitL p0.cells) : PC PP F_laws_FnExactDeterminant [mtV f p0] (Bo true) [] := by
  have hz0 := szMatrix_c f hf p0 1048576 g0 (by omega)
  have hb0 := szI_rng (n := 1048576) (k := szL p0.cells) (by omega)
  have hs0 : 0 ≤ szI 1048576 (szL p0.cells) → smallL p0.cells ∧ szL p0.cells ≤ 1048576 := fun h => ⟨smallL_of (szI_small (by omega) h), szI_small (by omega) h⟩
  generalize szI 1048576 (szL p0.cells) = z0 at *
  refine txe W_laws_FnExactDeterminant ke_laws_FnExactDeterminant [] [] [13, 17] (by kernel_rfl) ?_
  simp -dsimp (disch:=first|assumption|(refine OM.mk ?_;first|omega|(simp only [List.length_map,List.length_set,List.length_take]<;>omega))|(simp -dsimp only [go_sem];done)|fail) only [go_sem,↓reduceIte,Nat.reduceEqDiff,Nat.reduceAdd,Nat.reduceSub,Nat.reduceMul,Nat.reduceLT,Nat.reduceLeDiff,reduceCtorEq,a_eq,a_neq,a_cast0,a_pred,a_app1,a_zero,Int.reduceToNat]
  refine callP hz0 (by simp -dsimp (disch:=first|assumption|(simp -dsimp only [go_sem];done)|fail) only [go_sem]) ?_
  simp -dsimp (disch:=first|assumption|(refine OM.mk ?_;first|omega|(simp only [List.length_map,List.length_set,List.length_take]<;>omega))|(simp -dsimp only [go_sem];done)|fail) only [go_sem,↓reduceIte,Nat.reduceEqDiff,Nat.reduceAdd,Nat.reduceSub,Nat.reduceMul,Nat.reduceLT,Nat.reduceLeDiff,reduceCtorEq,a_eq,a_neq,a_cast0,a_pred,a_app1,a_zero,Int.reduceToNat]
  intro qp0
  obtain ⟨s0, s0k⟩ := hs0 (by omega)
  refine callP (toMatrix_c f hf p0 s0) (by simp -dsimp (disch:=first|assumption|(simp -dsimp only [go_sem];done)|fail) only [go_sem]) ?_
  simp -dsimp (disch:=first|assumption|(refine OM.mk ?_;first|omega|(simp only [List.length_map,List.length_set,List.length_take]<;>omega))|(simp -dsimp only [go_sem];done)|fail) only [go_sem,↓reduceIte,Nat.reduceEqDiff,Nat.reduceAdd,Nat.reduceSub,Nat.reduceMul,Nat.reduceLT,Nat.reduceLeDiff,reduceCtorEq,a_eq,a_neq,a_cast0,a_pred,a_app1,a_zero,Int.reduceToNat]
  refine callP (spec_Determinant_s p0 s0) (by simp -dsimp (disch:=first|assumption|(simp -dsimp only [go_sem];done)|fail) only [go_sem]) ?_
  simp -dsimp (disch:=first|assumption|(refine OM.mk ?_;first|omega|(simp only [List.length_map,List.length_set,List.length_take]<;>omega))|(simp -dsimp only [go_sem];done)|fail) only [go_sem,↓reduceIte,Nat.reduceEqDiff,Nat.reduceAdd,Nat.reduceSub,Nat.reduceMul,Nat.reduceLT,Nat.reduceLeDiff,reduceCtorEq,a_eq,a_neq,a_cast0,a_pred,a_app1,a_zero,Int.reduceToNat]
  refine callO' (toMatrixO_c f hf p0 s0) (by simp -dsimp (disch:=first|assumption|(simp -dsimp only [go_sem];done)|fail) only [go_sem]) (by simp -dsimp only [go_sem,↓reduceIte,Nat.reduceEqDiff,Nat.reduceAdd,Nat.reduceSub,Nat.reduceMul,Nat.reduceLT,Nat.reduceLeDiff,reduceCtorEq, List.forall_mem_cons, List.not_mem_nil, false_implies, implies_true]) ?_
  simp -dsimp (disch:=first|assumption|(refine OM.mk ?_;first|omega|(simp only [List.length_map,List.length_set,List.length_take]<;>omega))|(simp -dsimp only [go_sem];done)|fail) only [go_sem,↓reduceIte,Nat.reduceEqDiff,Nat.reduceAdd,Nat.reduceSub,Nat.reduceMul,Nat.reduceLT,Nat.reduceLeDiff,reduceCtorEq,a_eq,a_neq,a_cast0,a_pred,a_app1,a_zero,Int.reduceToNat]
  have hig := impl_Determinant_i .b flb p0 s0
  have his := impl_Determinant_i .s fls p0 s0
  obtain ⟨hSw0, hKw0⟩ := Determinant_W p0 s0
  generalize qd (detQ p0) = w0 at *
  generalize (detQ p0).good = w1 at *
  refine callO' hig (by simp -dsimp (disch:=first|assumption|(simp -dsimp only [go_sem];done)|fail) only [go_sem]) (by simp -dsimp only [go_sem,↓reduceIte,Nat.reduceEqDiff,Nat.reduceAdd,Nat.reduceSub,Nat.reduceMul,Nat.reduceLT,Nat.reduceLeDiff,reduceCtorEq, List.forall_mem_cons, List.not_mem_nil, false_implies, implies_true]) ?_
  simp -dsimp (disch:=first|assumption|(refine OM.mk ?_;first|omega|(simp only [List.length_map,List.length_set,List.length_take]<;>omega))|(simp -dsimp only [go_sem];done)|fail) only [go_sem,↓reduceIte,Nat.reduceEqDiff,Nat.reduceAdd,Nat.reduceSub,Nat.reduceMul,Nat.reduceLT,Nat.reduceLeDiff,reduceCtorEq,a_eq,a_neq,a_cast0,a_pred,a_app1,a_zero,Int.reduceToNat]
  refine callP (eqRat_c .b .s flb fls w0 w0 hSw0) (by simp -dsimp (disch:=first|assumption|(simp -dsimp only [go_sem];done)|fail) only [go_sem]) ?_
  simp -dsimp (disch:=first|assumption|(refine OM.mk ?_;first|omega|(simp only [List.length_map,List.length_set,List.length_take]<;>omega))|(simp -dsimp only [go_sem];done)|fail) only [go_sem,↓reduceIte,Nat.reduceEqDiff,Nat.reduceAdd,Nat.reduceSub,Nat.reduceMul,Nat.reduceLT,Nat.reduceLeDiff,reduceCtorEq,a_eq,a_neq,a_cast0,a_pred,a_app1,a_zero,Int.reduceToNat, bne_self_eq_false]
  refine callP (toMatrix_c f hf p0 s0) (by simp -dsimp (disch:=first|assumption|(simp -dsimp only [go_sem];done)|fail) only [go_sem]) ?_
  simp -dsimp (disch:=first|assumption|(refine OM.mk ?_;first|omega|(simp only [List.length_map,List.length_set,List.length_take]<;>omega))|(simp -dsimp only [go_sem];done)|fail) only [go_sem,↓reduceIte,Nat.reduceEqDiff,Nat.reduceAdd,Nat.reduceSub,Nat.reduceMul,Nat.reduceLT,Nat.reduceLeDiff,reduceCtorEq,a_eq,a_neq,a_cast0,a_pred,a_app1,a_zero,Int.reduceToNat]
  refine callP (eqMatrix_c .b .s flb fls p0 s0) (by simp -dsimp (disch:=first|assumption|(simp -dsimp only [go_sem];done)|fail) only [go_sem]) ?_
  simp -dsimp (disch:=first|assumption|(refine OM.mk ?_;first|omega|(simp only [List.length_map,List.length_set,List.length_take]<;>omega))|(simp -dsimp only [go_sem];done)|fail) only [go_sem,↓reduceIte,Nat.reduceEqDiff,Nat.reduceAdd,Nat.reduceSub,Nat.reduceMul,Nat.reduceLT,Nat.reduceLeDiff,reduceCtorEq,a_eq,a_neq,a_cast0,a_pred,a_app1,a_zero,Int.reduceToNat]
  refine callG' [2] (markMatrix_c p0 (1) s0 (by omega) (by omega)) (by decide) (by simp -dsimp (disch:=first|assumption|(simp -dsimp only [go_sem];done)|fail) only [go_sem]) (by simp -dsimp (disch:=first|assumption|(simp -dsimp only [go_sem];done)|fail) only [go_sem]) (by simp -dsimp only [go_sem,↓reduceIte,Nat.reduceEqDiff,Nat.reduceAdd,Nat.reduceSub,Nat.reduceMul,Nat.reduceLT,Nat.reduceLeDiff,reduceCtorEq]) (by simp -dsimp only [go_sem,↓reduceIte,Nat.reduceEqDiff,Nat.reduceAdd,Nat.reduceSub,Nat.reduceMul,Nat.reduceLT,Nat.reduceLeDiff,reduceCtorEq, List.forall_mem_cons, List.not_mem_nil, false_implies, implies_true]) ?_
  simp -dsimp (disch:=first|assumption|(refine OM.mk ?_;first|omega|(simp only [List.length_map,List.length_set,List.length_take]<;>omega))|(simp -dsimp only [go_sem];done)|fail) only [go_sem,↓reduceIte,Nat.reduceEqDiff,Nat.reduceAdd,Nat.reduceSub,Nat.reduceMul,Nat.reduceLT,Nat.reduceLeDiff,reduceCtorEq,a_eq,a_neq,a_cast0,a_pred,a_app1,a_zero,Int.reduceToNat]
  refine callP (eqRat_c .b .s flb fls w0 w0 hSw0) (by simp -dsimp (disch:=first|assumption|(simp -dsimp only [go_sem];done)|fail) only [go_sem]) ?_
  simp -dsimp (disch:=first|assumption|(refine OM.mk ?_;first|omega|(simp only [List.length_map,List.length_set,List.length_take]<;>omega))|(simp -dsimp only [go_sem];done)|fail) only [go_sem,↓reduceIte,Nat.reduceEqDiff,Nat.reduceAdd,Nat.reduceSub,Nat.reduceMul,Nat.reduceLT,Nat.reduceLeDiff,reduceCtorEq,a_eq,a_neq,a_cast0,a_pred,a_app1,a_zero,Int.reduceToNat, bne_self_eq_false]
  refine callG' [4, 5] (markRat_c w0 (1) hSw0 (by omega)) (by decide) (by simp -dsimp (disch:=first|assumption|(simp -dsimp only [go_sem];done)|fail) only [go_sem]) (by simp -dsimp (disch:=first|assumption|(simp -dsimp only [go_sem];done)|fail) only [go_sem]) (by simp -dsimp only [go_sem,↓reduceIte,Nat.reduceEqDiff,Nat.reduceAdd,Nat.reduceSub,Nat.reduceMul,Nat.reduceLT,Nat.reduceLeDiff,reduceCtorEq]) (by simp -dsimp only [go_sem,↓reduceIte,Nat.reduceEqDiff,Nat.reduceAdd,Nat.reduceSub,Nat.reduceMul,Nat.reduceLT,Nat.reduceLeDiff,reduceCtorEq, List.forall_mem_cons, List.not_mem_nil, false_implies, implies_true]) ?_
  simp -dsimp (disch:=first|assumption|(refine OM.mk ?_;first|omega|(simp only [List.length_map,List.length_set,List.length_take]<;>omega))|(simp -dsimp only [go_sem];done)|fail) only [go_sem,↓reduceIte,Nat.reduceEqDiff,Nat.reduceAdd,Nat.reduceSub,Nat.reduceMul,Nat.reduceLT,Nat.reduceLeDiff,reduceCtorEq,a_eq,a_neq,a_cast0,a_pred,a_app1,a_zero,Int.reduceToNat]
  have hhw0 := heldRat_c .b flb (markR w0 1) 1 (markR_small hSw0) (by omega)
  rw [heldR_mark (by omega)] at hhw0
  refine callP hhw0 (by simp -dsimp (disch:=first|assumption|(simp -dsimp only [go_sem];done)|fail) only [go_sem]) ?_
  simp -dsimp (disch:=first|assumption|(refine OM.mk ?_;first|omega|(simp only [List.length_map,List.length_set,List.length_take]<;>omega))|(simp -dsimp only [go_sem];done)|fail) only [go_sem,↓reduceIte,Nat.reduceEqDiff,Nat.reduceAdd,Nat.reduceSub,Nat.reduceMul,Nat.reduceLT,Nat.reduceLeDiff,reduceCtorEq,a_eq,a_neq,a_cast0,a_pred,a_app1,a_zero,Int.reduceToNat]
  refine callP (toMatrix_c f hf p0 s0) (by simp -dsimp (disch:=first|assumption|(simp -dsimp only [go_sem];done)|fail) only [go_sem]) ?_
  simp -dsimp (disch:=first|assumption|(refine OM.mk ?_;first|omega|(simp only [List.length_map,List.length_set,List.length_take]<;>omega))|(simp -dsimp only [go_sem];done)|fail) only [go_sem,↓reduceIte,Nat.reduceEqDiff,Nat.reduceAdd,Nat.reduceSub,Nat.reduceMul,Nat.reduceLT,Nat.reduceLeDiff,reduceCtorEq,a_eq,a_neq,a_cast0,a_pred,a_app1,a_zero,Int.reduceToNat]
  refine callO' his (by simp -dsimp (disch:=first|assumption|(simp -dsimp only [go_sem];done)|fail) only [go_sem]) (by simp -dsimp only [go_sem,↓reduceIte,Nat.reduceEqDiff,Nat.reduceAdd,Nat.reduceSub,Nat.reduceMul,Nat.reduceLT,Nat.reduceLeDiff,reduceCtorEq, List.forall_mem_cons, List.not_mem_nil, false_implies, implies_true]) ?_
  simp -dsimp (disch:=first|assumption|(refine OM.mk ?_;first|omega|(simp only [List.length_map,List.length_set,List.length_take]<;>omega))|(simp -dsimp only [go_sem];done)|fail) only [go_sem,↓reduceIte,Nat.reduceEqDiff,Nat.reduceAdd,Nat.reduceSub,Nat.reduceMul,Nat.reduceLT,Nat.reduceLeDiff,reduceCtorEq,a_eq,a_neq,a_cast0,a_pred,a_app1,a_zero,Int.reduceToNat]
  refine callP (eqRat_c .b .s flb fls w0 w0 hSw0) (by simp -dsimp (disch:=first|assumption|(simp -dsimp only [go_sem];done)|fail) only [go_sem]) ?_
  simp -dsimp (disch:=first|assumption|(refine OM.mk ?_;first|omega|(simp only [List.length_map,List.length_set,List.length_take]<;>omega))|(simp -dsimp only [go_sem];done)|fail) only [go_sem,↓reduceIte,Nat.reduceEqDiff,Nat.reduceAdd,Nat.reduceSub,Nat.reduceMul,Nat.reduceLT,Nat.reduceLeDiff,reduceCtorEq,a_eq,a_neq,a_cast0,a_pred,a_app1,a_zero,Int.reduceToNat, bne_self_eq_false]
  refine callP hhw0 (by simp -dsimp (disch:=first|assumption|(simp -dsimp only [go_sem];done)|fail) only [go_sem]) ?_
  simp -dsimp (disch:=first|assumption|(refine OM.mk ?_;first|omega|(simp only [List.length_map,List.length_set,List.length_take]<;>omega))|(simp -dsimp only [go_sem];done)|fail) only [go_sem,↓reduceIte,Nat.reduceEqDiff,Nat.reduceAdd,Nat.reduceSub,Nat.reduceMul,Nat.reduceLT,Nat.reduceLeDiff,reduceCtorEq,a_eq,a_neq,a_cast0,a_pred,a_app1,a_zero,Int.reduceToNat]
end Go.Proofs.YtikmepdhpffdoaaGreat
