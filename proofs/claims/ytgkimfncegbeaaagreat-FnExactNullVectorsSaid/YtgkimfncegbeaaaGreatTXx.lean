/- part of the proof -/
import Derived.Test.YtgkimfncegbeaaaGreatTXs
namespace Go.Proofs.YtgkimfncegbeaaaGreat
open Go Go.RowKit
set_option maxRecDepth 100000
set_option maxHeartbeats 4000000
set_option linter.unusedVariables false
set_option linter.unusedSimpArgs false
theorem rs_rep {n : Nat} : rsC .s (List.replicate n (qd (FQ.ofInt 0))) ++ [Bo (qd (FQ.ofInt 0)).neg, sI .s (qd (FQ.ofInt 0)).mag, sI .s (qd (FQ.ofInt 0)).den] = rsC .s (List.replicate (n + 1) (qd (FQ.ofInt 0))) := by
  rw [rs_app, List.replicate_succ']
theorem l05Zeros_g (n : Nat) (hn : n ≤ 1048576) : GC PP F_spec_l05Zeros [I n] [] (.rsl 0 3 0 n) [⟨.own, T_impl_Rat, rsC .s (List.replicate n (qd (FQ.ofInt 0)))⟩] := by
  refine txg W_spec_l05Zeros ke_spec_l05Zeros 0 [] [] [] rfl (by kernel_rfl) ?_
  simp -dsimp(disch:=first|exact om|fail)only[go_sem,↓reduceIte,Nat.reduceEqDiff,Nat.reduceAdd,Nat.reduceSub,Nat.reduceMul,Nat.reduceLT,Nat.reduceLeDiff,reduceCtorEq,a_eq,a_neq,a_cast0,a_pred,a_app1,a_zero,Int.reduceToNat]
  refine loopJ (fun k : Nat => k ≤ n) (fun k => ⟨[(0, I n), (3, .rsl 0 3 0 k)], [⟨.own, T_impl_Rat, rsC .s (List.replicate k (qd (FQ.ofInt 0)))⟩]⟩) (fun k => n - k) 0 (by omega) ?_ ?_
  · exact StI.ren [none] [[]] lE (by decide) lW lW
  intro k hk
  by_cases h : k < n
  · simp -dsimp(disch:=first|exact om|fail)only[go_sem,↓reduceIte,Nat.reduceEqDiff,Nat.reduceAdd,Nat.reduceSub,Nat.reduceMul,Nat.reduceLT,Nat.reduceLeDiff,reduceCtorEq,a_eq,a_neq,a_cast0,a_pred,a_app1,a_zero,Int.reduceToNat]
    refine callP l05Zero_c lL ?_
    have hl : (List.replicate k (qd (FQ.ofInt 0))).length = k := List.length_replicate
    have hr := rs_rep (n := k)
    generalize List.replicate k (qd (FQ.ofInt 0)) = L at *
    generalize hL' : List.replicate (k + 1) (qd (FQ.ofInt 0)) = L' at *
    simp -dsimp(disch:=first|exact om|fail)only[go_sem,↓reduceIte,Nat.reduceEqDiff,Nat.reduceAdd,Nat.reduceSub,Nat.reduceMul,Nat.reduceLT,Nat.reduceLeDiff,reduceCtorEq,a_eq,a_neq,a_cast0,a_pred,a_app1,a_zero,Int.reduceToNat, hr]
    exact ⟨by rw [hl], k + 1, by omega, by omega, by rw [hL']; exact StI.ren [some 1] [[]] lE (by decide) lW lW⟩
  · obtain rfl : k = n := by omega
    simp -dsimp(disch:=first|exact om|fail)only[go_sem,↓reduceIte,Nat.reduceEqDiff,Nat.reduceAdd,Nat.reduceSub,Nat.reduceMul,Nat.reduceLT,Nat.reduceLeDiff,reduceCtorEq,a_eq,a_neq,a_cast0,a_pred,a_app1,a_zero,Int.reduceToNat]
    exact RtG.nothing [some 0] trivial (by decide) lW lW
end Go.Proofs.YtgkimfncegbeaaaGreat
