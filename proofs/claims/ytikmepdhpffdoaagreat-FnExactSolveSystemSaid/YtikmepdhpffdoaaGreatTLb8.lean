/- part of the proof -/
import Derived.Test.YtikmepdhpffdoaaGreatTYd
import Derived.Test.YtikmepdhpffdoaaGreatTGr
import Derived.Test.YtikmepdhpffdoaaGreatTLa6
namespace Go.Proofs.YtikmepdhpffdoaaGreat
open Go Go.RowKit
set_option maxRecDepth 100000
set_option maxHeartbeats 4000000
set_option linter.unusedVariables false
set_option linter.unusedSimpArgs false
theorem sysQ_len (m : MD) (l : List RD) : (sysQ m l).1.length ≤ 24 := by
  unfold sysQ
  split
  · rename_i h
    unfold sysOk at h
    simp only [Bool.and_eq_true, decide_eq_true_eq] at h
    unfold sysN
    split
    · show (rowQ _ _).length ≤ 24
      rw [rowQ_length]; omega
    · simp
  · simp
theorem spec_SolveSystem_s (p0 : MD) (p1 : List RD) (h0 : smallL p0.cells) (h1 : smallL p1) : PC PP F_spec_SolveSystem [mtV .s p0, sR .s p1] (vsS (sysQ p0 p1)) [] := spec_SolveSystem_c p0 p1 h0 h1
theorem impl_SolveSystem_i (f : Fl) (hf : f ≠ .u) (p0 : MD) (p1 : List RD) (h0 : smallL p0.cells) (h1 : smallL p1) : GC PP F_impl_SolveSystem [mtV f p0, sR f p1] [] (.tup [.rsl 0 3 0 ((sysQ p0 p1).1.map qd).length, Bo (sysQ p0 p1).2]) [⟨.own, T_impl_Rat, rsC .u ((sysQ p0 p1).1.map qd)⟩] := by
  rw [List.length_map]; exact impl_SolveSystem_g p0 f f hf hf p1 h0 h1
theorem SolveSystem_W (p0 : MD) (p1 : List RD) (h0 : smallL p0.cells) (h1 : smallL p1) : smallL ((sysQ p0 p1).1.map qd) ∧ szL ((sysQ p0 p1).1.map qd) ≤ 100000 := qdl_small (by have := sysQ_len p0 p1; omega)
theorem FnExactSolveSystem_c (f : Fl) (hf : f ≠ .u) (p0 : MD) (p1 : List RD) (g0 : fitL p0.cells) (g1 : fitL p1) : PC PP F_laws_FnExactSolveSystem [mtV f p0, sR f p1] (Bo true) [] := by
  have hz0 := szMatrix_c f hf p0 1048576 g0 (by omega)
  have hb0 := szI_rng (n := 1048576) (k := szL p0.cells) (by omega)
  have hs0 : 0 ≤ szI 1048576 (szL p0.cells) → smallL p0.cells ∧ szL p0.cells ≤ 1048576 := fun h => ⟨smallL_of (szI_small (by omega) h), szI_small (by omega) h⟩
  generalize szI 1048576 (szL p0.cells) = z0 at *
  have hz1 := szRatS_c f hf p1 z0 g1 hb0
  have hb1 := szI_rng (n := z0) (k := szL p1) (by omega)
  have hs1 : 0 ≤ szI z0 (szL p1) → smallL p1 ∧ szL p1 ≤ 1048576 := fun h => ⟨smallL_of (szI_small (by omega) h), szI_small (by omega) h⟩
  generalize szI z0 (szL p1) = z1 at *
  refine txe W_laws_FnExactSolveSystem ke_laws_FnExactSolveSystem [] [] [19, 20, 24] (by kernel_rfl) ?_
  simp -dsimp(disch:=first|exact om|fail)only[go_sem,↓reduceIte,Nat.reduceEqDiff,Nat.reduceAdd,Nat.reduceSub,Nat.reduceMul,Nat.reduceLT,Nat.reduceLeDiff,reduceCtorEq,a_eq,a_neq,a_cast0,a_pred,a_app1,a_zero,Int.reduceToNat]
  refine callP hz0 lL ?_
  simp -dsimp(disch:=first|exact om|fail)only[go_sem,↓reduceIte,Nat.reduceEqDiff,Nat.reduceAdd,Nat.reduceSub,Nat.reduceMul,Nat.reduceLT,Nat.reduceLeDiff,reduceCtorEq,a_eq,a_neq,a_cast0,a_pred,a_app1,a_zero,Int.reduceToNat]
  intro qp0
  obtain ⟨s0, s0k⟩ := hs0 (by omega)
  refine callP hz1 lL ?_
  simp -dsimp(disch:=first|exact om|fail)only[go_sem,↓reduceIte,Nat.reduceEqDiff,Nat.reduceAdd,Nat.reduceSub,Nat.reduceMul,Nat.reduceLT,Nat.reduceLeDiff,reduceCtorEq,a_eq,a_neq,a_cast0,a_pred,a_app1,a_zero,Int.reduceToNat]
  intro qp1
  obtain ⟨s1, s1k⟩ := hs1 (by omega)
  refine callP (toMatrix_c f hf p0 s0) lL ?_
  simp -dsimp(disch:=first|exact om|fail)only[go_sem,↓reduceIte,Nat.reduceEqDiff,Nat.reduceAdd,Nat.reduceSub,Nat.reduceMul,Nat.reduceLT,Nat.reduceLeDiff,reduceCtorEq,a_eq,a_neq,a_cast0,a_pred,a_app1,a_zero,Int.reduceToNat]
  refine callP (toRatS_c f hf p1 s1) lL ?_
  simp -dsimp(disch:=first|exact om|fail)only[go_sem,↓reduceIte,Nat.reduceEqDiff,Nat.reduceAdd,Nat.reduceSub,Nat.reduceMul,Nat.reduceLT,Nat.reduceLeDiff,reduceCtorEq,a_eq,a_neq,a_cast0,a_pred,a_app1,a_zero,Int.reduceToNat]
  refine callP (spec_SolveSystem_s p0 p1 s0 s1) lL ?_
  simp -dsimp(disch:=first|exact om|fail)only[go_sem,↓reduceIte,Nat.reduceEqDiff,Nat.reduceAdd,Nat.reduceSub,Nat.reduceMul,Nat.reduceLT,Nat.reduceLeDiff,reduceCtorEq,a_eq,a_neq,a_cast0,a_pred,a_app1,a_zero,Int.reduceToNat]
  refine callO' (toMatrixO_c f hf p0 s0) lL lF ?_
  simp -dsimp(disch:=first|exact om|fail)only[go_sem,↓reduceIte,Nat.reduceEqDiff,Nat.reduceAdd,Nat.reduceSub,Nat.reduceMul,Nat.reduceLT,Nat.reduceLeDiff,reduceCtorEq,a_eq,a_neq,a_cast0,a_pred,a_app1,a_zero,Int.reduceToNat]
  refine callO' (toRatSO_c f hf p1 s1) lL lF ?_
  simp -dsimp(disch:=first|exact om|fail)only[go_sem,↓reduceIte,Nat.reduceEqDiff,Nat.reduceAdd,Nat.reduceSub,Nat.reduceMul,Nat.reduceLT,Nat.reduceLeDiff,reduceCtorEq,a_eq,a_neq,a_cast0,a_pred,a_app1,a_zero,Int.reduceToNat]
  have hig := impl_SolveSystem_i .b flb p0 p1 s0 s1
  have his := impl_SolveSystem_i .s fls p0 p1 s0 s1
  obtain ⟨hSw0, hKw0⟩ := SolveSystem_W p0 p1 s0 s1
  generalize (sysQ p0 p1).1.map qd = w0 at *
  generalize (sysQ p0 p1).2 = w1 at *
  refine callO' hig lL lF ?_
  simp -dsimp(disch:=first|exact om|fail)only[go_sem,↓reduceIte,Nat.reduceEqDiff,Nat.reduceAdd,Nat.reduceSub,Nat.reduceMul,Nat.reduceLT,Nat.reduceLeDiff,reduceCtorEq,a_eq,a_neq,a_cast0,a_pred,a_app1,a_zero,Int.reduceToNat]
  refine callP (eqRatS_c .b .s flb fls w0 w0 hSw0) lL ?_
  simp -dsimp(disch:=first|exact om|fail)only[go_sem,↓reduceIte,Nat.reduceEqDiff,Nat.reduceAdd,Nat.reduceSub,Nat.reduceMul,Nat.reduceLT,Nat.reduceLeDiff,reduceCtorEq,a_eq,a_neq,a_cast0,a_pred,a_app1,a_zero,Int.reduceToNat, bne_self_eq_false]
  refine callP (toMatrix_c f hf p0 s0) lL ?_
  simp -dsimp(disch:=first|exact om|fail)only[go_sem,↓reduceIte,Nat.reduceEqDiff,Nat.reduceAdd,Nat.reduceSub,Nat.reduceMul,Nat.reduceLT,Nat.reduceLeDiff,reduceCtorEq,a_eq,a_neq,a_cast0,a_pred,a_app1,a_zero,Int.reduceToNat]
  refine callP (eqMatrix_c .b .s flb fls p0 s0) lL ?_
  simp -dsimp(disch:=first|exact om|fail)only[go_sem,↓reduceIte,Nat.reduceEqDiff,Nat.reduceAdd,Nat.reduceSub,Nat.reduceMul,Nat.reduceLT,Nat.reduceLeDiff,reduceCtorEq,a_eq,a_neq,a_cast0,a_pred,a_app1,a_zero,Int.reduceToNat]
  refine callP (toRatS_c f hf p1 s1) lL ?_
  simp -dsimp(disch:=first|exact om|fail)only[go_sem,↓reduceIte,Nat.reduceEqDiff,Nat.reduceAdd,Nat.reduceSub,Nat.reduceMul,Nat.reduceLT,Nat.reduceLeDiff,reduceCtorEq,a_eq,a_neq,a_cast0,a_pred,a_app1,a_zero,Int.reduceToNat]
  refine callP (eqRatS_c .b .s flb fls p1 p1 s1) lL ?_
  simp -dsimp(disch:=first|exact om|fail)only[go_sem,↓reduceIte,Nat.reduceEqDiff,Nat.reduceAdd,Nat.reduceSub,Nat.reduceMul,Nat.reduceLT,Nat.reduceLeDiff,reduceCtorEq,a_eq,a_neq,a_cast0,a_pred,a_app1,a_zero,Int.reduceToNat]
  refine callG' [1] (markMatrix_c p0 (1) s0 (by omega) (by omega)) (by decide) lL lL lE lF ?_
  simp -dsimp(disch:=first|exact om|fail)only[go_sem,↓reduceIte,Nat.reduceEqDiff,Nat.reduceAdd,Nat.reduceSub,Nat.reduceMul,Nat.reduceLT,Nat.reduceLeDiff,reduceCtorEq,a_eq,a_neq,a_cast0,a_pred,a_app1,a_zero,Int.reduceToNat]
  refine callG' [3] (markRatS_c p1 (1 + (szL p0.cells : Nat)) s1 (by omega) (by omega)) (by decide) lL lL lE lF ?_
  simp -dsimp(disch:=first|exact om|fail)only[go_sem,↓reduceIte,Nat.reduceEqDiff,Nat.reduceAdd,Nat.reduceSub,Nat.reduceMul,Nat.reduceLT,Nat.reduceLeDiff,reduceCtorEq,a_eq,a_neq,a_cast0,a_pred,a_app1,a_zero,Int.reduceToNat]
  refine callP (eqRatS_c .b .s flb fls w0 w0 hSw0) lL ?_
  simp -dsimp(disch:=first|exact om|fail)only[go_sem,↓reduceIte,Nat.reduceEqDiff,Nat.reduceAdd,Nat.reduceSub,Nat.reduceMul,Nat.reduceLT,Nat.reduceLeDiff,reduceCtorEq,a_eq,a_neq,a_cast0,a_pred,a_app1,a_zero,Int.reduceToNat, bne_self_eq_false]
  refine callG' [4] (markRatS_c w0 (1) hSw0 (by omega) (by omega)) (by decide) lL lL lE lF ?_
  simp -dsimp(disch:=first|exact om|fail)only[go_sem,↓reduceIte,Nat.reduceEqDiff,Nat.reduceAdd,Nat.reduceSub,Nat.reduceMul,Nat.reduceLT,Nat.reduceLeDiff,reduceCtorEq,a_eq,a_neq,a_cast0,a_pred,a_app1,a_zero,Int.reduceToNat]
  have hhw0 := heldRatS_m .b flb w0 (1) hSw0 (by omega) (by omega)
  refine callP hhw0 lL ?_
  simp -dsimp(disch:=first|exact om|fail)only[go_sem,↓reduceIte,Nat.reduceEqDiff,Nat.reduceAdd,Nat.reduceSub,Nat.reduceMul,Nat.reduceLT,Nat.reduceLeDiff,reduceCtorEq,a_eq,a_neq,a_cast0,a_pred,a_app1,a_zero,Int.reduceToNat]
  refine callP (toMatrix_c f hf p0 s0) lL ?_
  simp -dsimp(disch:=first|exact om|fail)only[go_sem,↓reduceIte,Nat.reduceEqDiff,Nat.reduceAdd,Nat.reduceSub,Nat.reduceMul,Nat.reduceLT,Nat.reduceLeDiff,reduceCtorEq,a_eq,a_neq,a_cast0,a_pred,a_app1,a_zero,Int.reduceToNat]
  refine callP (toRatS_c f hf p1 s1) lL ?_
  simp -dsimp(disch:=first|exact om|fail)only[go_sem,↓reduceIte,Nat.reduceEqDiff,Nat.reduceAdd,Nat.reduceSub,Nat.reduceMul,Nat.reduceLT,Nat.reduceLeDiff,reduceCtorEq,a_eq,a_neq,a_cast0,a_pred,a_app1,a_zero,Int.reduceToNat]
  refine callO' his lL lF ?_
  simp -dsimp(disch:=first|exact om|fail)only[go_sem,↓reduceIte,Nat.reduceEqDiff,Nat.reduceAdd,Nat.reduceSub,Nat.reduceMul,Nat.reduceLT,Nat.reduceLeDiff,reduceCtorEq,a_eq,a_neq,a_cast0,a_pred,a_app1,a_zero,Int.reduceToNat]
  refine callP (eqRatS_c .b .s flb fls w0 w0 hSw0) lL ?_
  simp -dsimp(disch:=first|exact om|fail)only[go_sem,↓reduceIte,Nat.reduceEqDiff,Nat.reduceAdd,Nat.reduceSub,Nat.reduceMul,Nat.reduceLT,Nat.reduceLeDiff,reduceCtorEq,a_eq,a_neq,a_cast0,a_pred,a_app1,a_zero,Int.reduceToNat, bne_self_eq_false]
  refine callP hhw0 lL ?_
  simp -dsimp(disch:=first|exact om|fail)only[go_sem,↓reduceIte,Nat.reduceEqDiff,Nat.reduceAdd,Nat.reduceSub,Nat.reduceMul,Nat.reduceLT,Nat.reduceLeDiff,reduceCtorEq,a_eq,a_neq,a_cast0,a_pred,a_app1,a_zero,Int.reduceToNat]
end Go.Proofs.YtikmepdhpffdoaaGreat
