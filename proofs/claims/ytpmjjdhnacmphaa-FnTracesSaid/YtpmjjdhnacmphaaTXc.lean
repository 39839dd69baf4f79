/- part of the proof -/
import Derived.Test.YtpmjjdhnacmphaaTXb
import Derived.Test.YtpmjjdhnacmphaaTJa
import Derived.Test.YtpmjjdhnacmphaaTGr
namespace Go.Proofs.Ytpmjjdhnacmphaa
open Go Go.RowKit
set_option maxRecDepth 100000
set_option maxHeartbeats 4000000
set_option linter.unusedVariables false
set_option linter.unusedSimpArgs false
theorem rtG_noT {H : List Ob} : RtG 0 H (.tup [.agg [.lit (.bool false), .emp, .emp], Bo false]) (toO FQ.bad) (rH (qd FQ.bad)) := by
  rw [toO_bad, qd_bad]
  exact RtG.ren [none, none] [[], []] trivial (by decide) (by simp -dsimp only [go_sem,↓reduceIte,Nat.reduceEqDiff,Nat.reduceAdd,Nat.reduceSub,Nat.reduceMul,Nat.reduceLT,Nat.reduceLeDiff,reduceCtorEq]; simp [iC]) lW
theorem told_g (f : Fl) (hf : f ≠ .u) (x : FQ) : GC PP F_impl_told [pQ f x] [] (toO x) (rH (qd x)) := by
  cases hx : x.good
  · obtain rfl : x = FQ.bad := by
      apply FQ.ext
      unfold FQ.good at hx
      cases e : x.1 with
      | none => rfl
      | some r => rw [e] at hx; cases hx
    refine txg W_impl_told ke_impl_told 0 [] [] [] rfl (by kernel_rfl) ?_
    simp -dsimp(disch:=first|exact om|fail)only[go_sem,↓reduceIte,Nat.reduceEqDiff,Nat.reduceAdd,Nat.reduceSub,Nat.reduceMul,Nat.reduceLT,Nat.reduceLeDiff,reduceCtorEq,a_eq,a_neq,a_cast0,a_pred,a_app1,a_zero,Int.reduceToNat, hx]
    exact rtG_noT
  · unfold toO
    rw [hx]
    refine txg W_impl_told ke_impl_told 0 [] [] [] rfl (by kernel_rfl) ?_
    simp -dsimp(disch:=first|exact om|fail)only[go_sem,↓reduceIte,Nat.reduceEqDiff,Nat.reduceAdd,Nat.reduceSub,Nat.reduceMul,Nat.reduceLT,Nat.reduceLeDiff,reduceCtorEq,a_eq,a_neq,a_cast0,a_pred,a_app1,a_zero,Int.reduceToNat, hx]
    refine callO' (store_g f hf x) lL lF ?_
    simp -dsimp(disch:=first|exact om|fail)only[go_sem,↓reduceIte,Nat.reduceEqDiff,Nat.reduceAdd,Nat.reduceSub,Nat.reduceMul,Nat.reduceLT,Nat.reduceLeDiff,reduceCtorEq,a_eq,a_neq,a_cast0,a_pred,a_app1,a_zero,Int.reduceToNat]
    exact RtG.nothing [some 1, some 2] lE (by decide) lS lE
end Go.Proofs.Ytpmjjdhnacmphaa
