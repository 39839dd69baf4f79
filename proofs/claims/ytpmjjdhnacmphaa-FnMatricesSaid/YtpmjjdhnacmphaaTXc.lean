/- part of the proof -/
import Derived.Test.YtpmjjdhnacmphaaTXb
import Derived.Test.YtpmjjdhnacmphaaTLa4
namespace Go.Proofs.Ytpmjjdhnacmphaa
open Go Go.RowKit
set_option maxRecDepth 100000
set_option maxHeartbeats 4000000
set_option linter.unusedVariables false
set_option linter.unusedSimpArgs false
theorem inner_c (f g p q : Fl) (hf : f ≠ .u) (hg : g ≠ .u) (hp : p ≠ .u) (hq : q ≠ .u) (x y : List FQ) (e : x.length = y.length) (hl : x.length ≤ 1000000) :
    PC PP F_impl_inner [sQ f p x, sQ g q y] (pQ .s (sumQ (fun i => (x.getD i FQ.bad).mul (y.getD i FQ.bad)) x.length)) [] := by
  refine tx W_impl_inner ke_impl_inner [] (by kernel_rfl) ?_
  simp -dsimp(disch:=first|exact om|fail)only[go_sem,↓reduceIte,Nat.reduceEqDiff,Nat.reduceAdd,Nat.reduceSub,Nat.reduceMul,Nat.reduceLT,Nat.reduceLeDiff,reduceCtorEq,a_eq,a_neq,a_cast0,a_pred,a_app1,a_zero,Int.reduceToNat]
  refine callP (whole_c 0 (by omega)) lL ?_
  simp -dsimp(disch:=first|exact om|fail)only[go_sem,↓reduceIte,Nat.reduceEqDiff,Nat.reduceAdd,Nat.reduceSub,Nat.reduceMul,Nat.reduceLT,Nat.reduceLeDiff,reduceCtorEq,a_eq,a_neq,a_cast0,a_pred,a_app1,a_zero,Int.reduceToNat]
  refine loopI (fun k : Nat => k ≤ x.length) (fun k => ⟨[(0, sQ f p x), (1, sQ g q y), (5, pQ .s (sumQ (fun i => (x.getD i FQ.bad).mul (y.getD i FQ.bad)) k)), (9, I x.length), (10, I k)], []⟩) (fun k => x.length - k) 0 (by omega) ?_ ?_
  · simp -dsimp(disch:=first|exact om|fail)only[go_sem,↓reduceIte,Nat.reduceEqDiff,Nat.reduceAdd,Nat.reduceSub,Nat.reduceMul,Nat.reduceLT,Nat.reduceLeDiff,reduceCtorEq,a_eq,a_neq,a_cast0,a_pred,a_app1,a_zero,Int.reduceToNat]
    exact of_eq_true vk_pQ
  intro k hk
  by_cases h : k < x.length
  · have hs : sumQ (fun i => (x.getD i FQ.bad).mul (y.getD i FQ.bad)) (k + 1) = (sumQ (fun i => (x.getD i FQ.bad).mul (y.getD i FQ.bad)) k).add ((x.getD k FQ.bad).mul (y.getD k FQ.bad)) := rfl
    generalize hS' : sumQ (fun i => (x.getD i FQ.bad).mul (y.getD i FQ.bad)) (k + 1) = S' at *
    generalize sumQ (fun i => (x.getD i FQ.bad).mul (y.getD i FQ.bad)) k = S at *
    simp -dsimp(disch:=first|exact om|fail)only[go_sem,↓reduceIte,Nat.reduceEqDiff,Nat.reduceAdd,Nat.reduceSub,Nat.reduceMul,Nat.reduceLT,Nat.reduceLeDiff,reduceCtorEq,a_eq,a_neq,a_cast0,a_pred,a_app1,a_zero,Int.reduceToNat]
    refine callP (mul_c p q hp hq (x.getD k FQ.bad) (y.getD k FQ.bad)) lL ?_
    simp -dsimp(disch:=first|exact om|fail)only[go_sem,↓reduceIte,Nat.reduceEqDiff,Nat.reduceAdd,Nat.reduceSub,Nat.reduceMul,Nat.reduceLT,Nat.reduceLeDiff,reduceCtorEq,a_eq,a_neq,a_cast0,a_pred,a_app1,a_zero,Int.reduceToNat]
    refine callP (add_c .s .s fls fls S ((x.getD k FQ.bad).mul (y.getD k FQ.bad))) lL ?_
    rw [← hs]
    simp -dsimp(disch:=first|exact om|fail)only[go_sem,↓reduceIte,Nat.reduceEqDiff,Nat.reduceAdd,Nat.reduceSub,Nat.reduceMul,Nat.reduceLT,Nat.reduceLeDiff,reduceCtorEq,a_eq,a_neq,a_cast0,a_pred,a_app1,a_zero,Int.reduceToNat]
    exact ⟨k + 1, by omega, by omega, by rw [hS']; exact of_eq_true vk_pQ, rfl⟩
  · obtain rfl : k = x.length := by omega
    simp -dsimp(disch:=first|exact om|fail)only[go_sem,↓reduceIte,Nat.reduceEqDiff,Nat.reduceAdd,Nat.reduceSub,Nat.reduceMul,Nat.reduceLT,Nat.reduceLeDiff,reduceCtorEq,a_eq,a_neq,a_cast0,a_pred,a_app1,a_zero,Int.reduceToNat]
end Go.Proofs.Ytpmjjdhnacmphaa
