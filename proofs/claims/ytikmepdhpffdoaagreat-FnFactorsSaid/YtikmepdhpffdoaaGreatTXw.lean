/- part of the proof -/
import Derived.Test.YtikmepdhpffdoaaGreatTXs
namespace Go.Proofs.YtikmepdhpffdoaaGreat
open Go Go.RowKit
set_option maxRecDepth 100000
set_option maxHeartbeats 4000000
set_option linter.unusedVariables false
set_option linter.unusedSimpArgs false
def idM : Nat → Nat → FQ := fun i k => if i = k then FQ.ofInt 1 else FQ.ofInt 0
theorem identity1_b (i k : Nat) (hi : i ≤ 64) (hk : k ≤ 64) : PB PP F_impl_identity_1 [I i, I k] (pQ .s (idM i k)) [] := by
  refine txb W_impl_identity_1 ke_impl_identity_1 [] [] [] (by kernel_rfl) ?_
  unfold idM
  by_cases h : i = k
  · subst h
    rw [if_pos rfl]
    simp -dsimp(disch:=first|exact om|fail)only[go_sem,↓reduceIte,Nat.reduceEqDiff,Nat.reduceAdd,Nat.reduceSub,Nat.reduceMul,Nat.reduceLT,Nat.reduceLeDiff,reduceCtorEq,a_eq,a_neq,a_cast0,a_pred,a_app1,a_zero,Int.reduceToNat]
    refine callP (whole_c 1 (by omega)) lL ?_
    simp -dsimp(disch:=first|exact om|fail)only[go_sem,↓reduceIte,Nat.reduceEqDiff,Nat.reduceAdd,Nat.reduceSub,Nat.reduceMul,Nat.reduceLT,Nat.reduceLeDiff,reduceCtorEq,a_eq,a_neq,a_cast0,a_pred,a_app1,a_zero,Int.reduceToNat]
    exact RtB.nothing [] (by decide) trivial lW
  · rw [if_neg h]
    have h' : ¬ (i : Int) = (k : Int) := by omega
    simp -dsimp(disch:=first|exact om|fail)only[go_sem,↓reduceIte,Nat.reduceEqDiff,Nat.reduceAdd,Nat.reduceSub,Nat.reduceMul,Nat.reduceLT,Nat.reduceLeDiff,reduceCtorEq,a_eq,a_neq,a_cast0,a_pred,a_app1,a_zero,Int.reduceToNat, h']
    refine callP (whole_c 0 (by omega)) lL ?_
    simp -dsimp(disch:=first|exact om|fail)only[go_sem,↓reduceIte,Nat.reduceEqDiff,Nat.reduceAdd,Nat.reduceSub,Nat.reduceMul,Nat.reduceLT,Nat.reduceLeDiff,reduceCtorEq,a_eq,a_neq,a_cast0,a_pred,a_app1,a_zero,Int.reduceToNat]
    exact RtB.nothing [] (by decide) trivial lW
theorem identity_g (n : Nat) (hn : n ≤ 24) : GC PP F_impl_identity [I n] [] (.agg [I n, I n, .rsl 0 1 0 n]) [⟨.own, T_sl_p_impl_ratio, gC .u .s n n idM⟩] := by
  refine txg W_impl_identity ke_impl_identity 0 [] [] [] rfl (by kernel_rfl) ?_
  simp -dsimp(disch:=first|exact om|fail)only[go_sem,↓reduceIte,Nat.reduceEqDiff,Nat.reduceAdd,Nat.reduceSub,Nat.reduceMul,Nat.reduceLT,Nat.reduceLeDiff,reduceCtorEq,a_eq,a_neq,a_cast0,a_pred,a_app1,a_zero,Int.reduceToNat]
  refine callO' (newGrid_g n n (by omega) (by omega) _ [] [] (by simp [V.fl1]) idM (fun i k hi hk => identity1_b i k (by omega) (by omega))) lL (by intro ob hob; simp only [List.mem_cons, List.not_mem_nil, or_false] at hob; subst hob; exact ⟨by simp, gC_flat⟩) ?_
  simp -dsimp(disch:=first|exact om|fail)only[go_sem,↓reduceIte,Nat.reduceEqDiff,Nat.reduceAdd,Nat.reduceSub,Nat.reduceMul,Nat.reduceLT,Nat.reduceLeDiff,reduceCtorEq,a_eq,a_neq,a_cast0,a_pred,a_app1,a_zero,Int.reduceToNat]
  refine RtG.nothing [some 1] trivial (by decide) ?_ lW
  simp -dsimp(disch:=first|exact om|fail)only[go_sem,↓reduceIte,Nat.reduceEqDiff,Nat.reduceAdd,Nat.reduceSub,Nat.reduceMul,Nat.reduceLT,Nat.reduceLeDiff,reduceCtorEq,a_eq,a_neq,a_cast0,a_pred,a_app1,a_zero,Int.reduceToNat]
  exact RnL.same gC_flat (fun _ v hv => by obtain ⟨i, rfl⟩ := gC_mem hv; trivial)
theorem idM_good (i k : Nat) : (idM i k).good = true := by
  unfold idM
  split <;> exact ofInt_good (by omega)
end Go.Proofs.YtikmepdhpffdoaaGreat
