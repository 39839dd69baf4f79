/- part of the proof -/
import Derived.Test.YtikmepdhpffdoaaGreatTXw
namespace Go.Proofs.YtikmepdhpffdoaaGreat
open Go Go.RowKit
set_option maxRecDepth 100000
set_option maxHeartbeats 4000000
set_option linter.unusedVariables false
set_option linter.unusedSimpArgs false
theorem rs_rep {n : Nat} : rsC .s (List.replicate n (qd (FQ.ofInt 0))) ++ [Bo (qd (FQ.ofInt 0)).neg, sI .s (qd (FQ.ofInt 0)).mag, sI .s (qd (FQ.ofInt 0)).den] = rsC .s (List.replicate (n + 1) (qd (FQ.ofInt 0))) := by
  rw [rs_app, List.replicate_succ']
theorem l05Zeros_g (n : Nat) (hn : n ≤ 1048576) : GC PP F_spec_l05Zeros [I n] [] (.rsl 0 3 0 n) [⟨.own, T_impl_Rat, rsC .s (List.replicate n (qd (FQ.ofInt 0)))⟩] := by
  refine txg W_spec_l05Zeros ke_spec_l05Zeros 0 [] [] [] rfl (by kernel_rfl) ?_
  simp -dsimp(disch:=first|exact om|fail)only[go_sem,↓reduceIte,Nat.reduceEqDiff,Nat.reduceAdd,Nat.reduceSub,Nat.reduceMul,Nat.reduceLT,Nat.reduceLeDiff,reduceCtorEq,a_eq,a_neq,a_cast0,a_pred,a_app1,a_zero,Int.reduceToNat]
  refine loopJ (fun k : Nat => k ≤ n) (fun k => ⟨[(0, I n), (3, .rsl 0 3 0 k)], [⟨.own, T_impl_Rat, rsC .s (List.replicate k (qd (FQ.ofInt 0)))⟩]⟩) (fun k => n - k) 0 (by omega) ?_ ?_
  · exact StI.ren [none] [[]] lE (by decide) lW lW
  intro k hk
  by_cases h : k < n
  · simp -dsimp(disch:=first|exact om|fail)only[go_sem,↓reduceIte,Nat.reduceEqDiff,Nat.reduceAdd,Nat.reduceSub,Nat.reduceMul,Nat.reduceLT,Nat.reduceLeDiff,reduceCtorEq,a_eq,a_neq,a_cast0,a_pred,a_app1,a_zero,Int.reduceToNat]
    refine callP l05Zero_c lL ?_
    have hl : (List.replicate k (qd (FQ.ofInt 0))).length = k := List.length_replicate
    have hr := rs_rep (n := k)
    generalize List.replicate k (qd (FQ.ofInt 0)) = L at *
    generalize hL' : List.replicate (k + 1) (qd (FQ.ofInt 0)) = L' at *
    simp -dsimp(disch:=first|exact om|fail)only[go_sem,↓reduceIte,Nat.reduceEqDiff,Nat.reduceAdd,Nat.reduceSub,Nat.reduceMul,Nat.reduceLT,Nat.reduceLeDiff,reduceCtorEq,a_eq,a_neq,a_cast0,a_pred,a_app1,a_zero,Int.reduceToNat, hr]
    exact ⟨by rw [hl], k + 1, by omega, by omega, by rw [hL']; exact StI.ren [some 1] [[]] lE (by decide) lW lW⟩
  · obtain rfl : k = n := by omega
    simp -dsimp(disch:=first|exact om|fail)only[go_sem,↓reduceIte,Nat.reduceEqDiff,Nat.reduceAdd,Nat.reduceSub,Nat.reduceMul,Nat.reduceLT,Nat.reduceLeDiff,reduceCtorEq,a_eq,a_neq,a_cast0,a_pred,a_app1,a_zero,Int.reduceToNat]
    exact RtG.nothing [some 0] trivial (by decide) lW lW
theorem l06Zero_g (n c : Nat) (hn : n ≤ 24) (hc : c ≤ 24) : GC PP F_spec_l06Zero [I n, I c] [] (.agg [I n, I c, .rsl 0 3 0 (n * c)]) [⟨.own, T_impl_Rat, rsC .s ((gridL n c fun _ _ => FQ.ofInt 0).map qd)⟩] := by
  have hnc := rc_le hn hc
  have e : (n : Int) * (c : Int) = ((n * c : Nat) : Int) := by rw [Int.natCast_mul]
  have q := l05Zeros_g (n * c) (by omega)
  rw [show List.replicate (n * c) (qd (FQ.ofInt 0)) = (gridL n c fun _ _ => FQ.ofInt 0).map qd by
    symm; rw [List.eq_replicate_iff]
    refine ⟨by rw [List.length_map, gridL_length], fun x hx => ?_⟩
    obtain ⟨y, hy, rfl⟩ := List.mem_map.1 hx
    unfold gridL rowQ at hy
    obtain ⟨i, _, hy⟩ := List.mem_flatMap.1 hy
    obtain ⟨j, _, rfl⟩ := List.mem_map.1 hy
    rfl] at q
  refine txg W_spec_l06Zero ke_spec_l06Zero 0 [] [] [] rfl (by kernel_rfl) ?_
  simp -dsimp(disch:=first|exact om|fail)only[go_sem,↓reduceIte,Nat.reduceEqDiff,Nat.reduceAdd,Nat.reduceSub,Nat.reduceMul,Nat.reduceLT,Nat.reduceLeDiff,reduceCtorEq,a_eq,a_neq,a_cast0,a_pred,a_app1,a_zero,Int.reduceToNat, e]
  refine callO' q lL lF ?_
  simp -dsimp(disch:=first|exact om|fail)only[go_sem,↓reduceIte,Nat.reduceEqDiff,Nat.reduceAdd,Nat.reduceSub,Nat.reduceMul,Nat.reduceLT,Nat.reduceLeDiff,reduceCtorEq,a_eq,a_neq,a_cast0,a_pred,a_app1,a_zero,Int.reduceToNat]
  exact RtG.nothing [some 1] trivial (by decide) lW lW
theorem l06Identity_g (n : Nat) (hn : n ≤ 24) : GC PP F_spec_l06Identity [I n] [] (.agg [I n, I n, .rsl 0 3 0 (n * n)]) [⟨.own, T_impl_Rat, rsC .s ((gridL n n idM).map qd)⟩] := by
  have hnc := rc_le hn hn
  obtain ⟨G, hG⟩ : ∃ G : Nat → Nat → Nat → FQ, G = fun b i j => if i = j ∧ i < b then FQ.ofInt 1 else FQ.ofInt 0 := ⟨_, rfl⟩
  have hG0 : (fun _ _ => FQ.ofInt 0) = G 0 := by rw [hG]; funext i j; simp
  have hGn : gridL n n (G n) = gridL n n idM := gridL_congr fun i j hi hj => by rw [hG]; unfold idM; simp [hi]
  have hGs : ∀ b, b < n → gridL n n (upd2 (G b) b b (FQ.ofInt 1)) = gridL n n (G (b + 1)) := fun b hb => gridL_congr fun i j hi hj => by
    rw [hG]; unfold upd2; simp only
    by_cases q : i = b ∧ j = b
    · rw [if_pos q, if_pos ⟨q.1.trans q.2.symm, by omega⟩]
    · rw [if_neg q]
      by_cases q2 : i = j ∧ i < b
      · rw [if_pos q2, if_pos ⟨q2.1, by omega⟩]
      · rw [if_neg q2, if_neg (fun z => by
          by_cases q3 : i = b
          · exact q ⟨q3, by omega⟩
          · exact q2 ⟨z.1, by omega⟩)]
  have q := l06Zero_g n n hn hn
  rw [hG0] at q
  refine txg W_spec_l06Identity ke_spec_l06Identity 0 [] [] [] rfl (by kernel_rfl) ?_
  simp -dsimp(disch:=first|exact om|fail)only[go_sem,↓reduceIte,Nat.reduceEqDiff,Nat.reduceAdd,Nat.reduceSub,Nat.reduceMul,Nat.reduceLT,Nat.reduceLeDiff,reduceCtorEq,a_eq,a_neq,a_cast0,a_pred,a_app1,a_zero,Int.reduceToNat]
  refine callO' q lL lF ?_
  simp -dsimp(disch:=first|exact om|fail)only[go_sem,↓reduceIte,Nat.reduceEqDiff,Nat.reduceAdd,Nat.reduceSub,Nat.reduceMul,Nat.reduceLT,Nat.reduceLeDiff,reduceCtorEq,a_eq,a_neq,a_cast0,a_pred,a_app1,a_zero,Int.reduceToNat]
  refine loopJ (fun b : Nat => b ≤ n) (fun b => ⟨[(0, I n), (2, .ref 0 0), (3, .ref 1 0), (4, I b)], [⟨.own, T_impl_Matrix, [I 0, I 0, .emp]⟩, ⟨.own, T_impl_Matrix, [I n, I n, .rsl 2 3 0 (n * n)]⟩, ⟨.own, T_impl_Rat, rsC .s ((gridL n n (G b)).map qd)⟩]⟩) (fun b => n - b) 0 (by omega) ?_ ?_
  · exact StI.ren [some 0, some 2, some 1] [[], [], []] lE (by decide) lW lW
  intro b hb
  by_cases h : b < n
  · have i1 := ix_lt h h
    have e1 : (b : Int) * (n : Int) = ((b * n : Nat) : Int) := by rw [Int.natCast_mul]
    have e2 : ((b * n : Nat) : Int) + (b : Int) = ((b * n + b : Nat) : Int) := by omega
    have s1 := gcs_set (N := G b) (x := FQ.ofInt 1) h h
    rw [hGs b h] at s1
    have hlG : ((gridL n n (G b)).map qd).length = n * n := by rw [List.length_map, gridL_length]
    simp -dsimp(disch:=first|exact om|fail)only[go_sem,↓reduceIte,Nat.reduceEqDiff,Nat.reduceAdd,Nat.reduceSub,Nat.reduceMul,Nat.reduceLT,Nat.reduceLeDiff,reduceCtorEq,a_eq,a_neq,a_cast0,a_pred,a_app1,a_zero,Int.reduceToNat, e1, e2]
    refine callP (spec_RatFromInt_c 1 (by omega)) lL ?_
    simp -dsimp(disch:=first|exact om|fail)only[go_sem,↓reduceIte,Nat.reduceEqDiff,Nat.reduceAdd,Nat.reduceSub,Nat.reduceMul,Nat.reduceLT,Nat.reduceLeDiff,reduceCtorEq,a_eq,a_neq,a_cast0,a_pred,a_app1,a_zero,Int.reduceToNat, e1, e2, s1]
    exact ⟨b + 1, by omega, by omega, StI.ren [some 0, some 1, some 2] [[], [], []] lE (by decide) lW lW⟩
  · obtain rfl : b = n := by omega
    rw [hGn]
    simp -dsimp(disch:=first|exact om|fail)only[go_sem,↓reduceIte,Nat.reduceEqDiff,Nat.reduceAdd,Nat.reduceSub,Nat.reduceMul,Nat.reduceLT,Nat.reduceLeDiff,reduceCtorEq,a_eq,a_neq,a_cast0,a_pred,a_app1,a_zero,Int.reduceToNat]
    exact RtG.nothing [some 2] trivial (by decide) lW lW
end Go.Proofs.YtikmepdhpffdoaaGreat
