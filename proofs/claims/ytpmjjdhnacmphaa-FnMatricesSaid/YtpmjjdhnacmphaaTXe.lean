/- part of the proof -/
import Derived.Test.YtpmjjdhnacmphaaTXd
namespace Go.Proofs.Ytpmjjdhnacmphaa
open Go Go.RowKit
set_option maxRecDepth 100000
set_option maxHeartbeats 4000000
set_option linter.unusedVariables false
set_option linter.unusedSimpArgs false
theorem open_any (m : MD) (f : Fl) (hf : f ≠ .u) (hs : smallL m.cells) : ∃ r c M, PB PP F_impl_Matrix_open [mtV f m] (.tup [gV .b r c M, Bo m.ok]) [] ∧ (m.ok = true → r ≤ 24 ∧ c ≤ 24 ∧ m.Good r c ∧ M = m.at c) ∧ (m.ok = false → r = 0 ∧ c = 0) := by
  cases ho : m.ok
  · exact ⟨0, 0, fun _ _ => FQ.bad, open_no m f hf ho hs, fun h => absurd h (by decide), fun _ => ⟨rfl, rfl⟩⟩
  · obtain ⟨r, c, hg⟩ := MD.ok_good ho
    exact ⟨r, c, m.at c, open_ok m f hf r c hg hs, fun _ => ⟨hg.r24, hg.c24, hg, rfl⟩, fun h => absurd h (by decide)⟩
theorem rtG_noM {H : List Ob} : RtG 0 H (.tup [.agg [I 0, I 0, .emp], Bo false]) (moG noM) (mtH noM.1) := RtG.ren [none] [[]] trivial (by decide) lW lW
theorem column_b (r c : Nat) (hr : r ≤ 24) (hc : c ≤ 24) (M : Nat → Nat → FQ) (k : Nat) (hk : k < c) : PB PP F_impl_grid_column [gV .b r c M, I k] (.rsl 0 1 0 r) [⟨.own, T_p_impl_ratio, qs .b (rowQ r fun i => M i k)⟩] := by
  have hlo : (rowQ r fun i => M i k).length = r := rowQ_length
  have hoi : ∀ i, i < r → (rowQ r fun i => M i k).getD i FQ.bad = M i k := fun i hi => rowQ_get hi
  generalize (rowQ r fun i => M i k) = o at *
  refine txb W_impl_grid_column ke_impl_grid_column [] [] [] (by kernel_rfl) ?_
  simp -dsimp(disch:=first|exact om|fail)only[go_sem,↓reduceIte,Nat.reduceEqDiff,Nat.reduceAdd,Nat.reduceSub,Nat.reduceMul,Nat.reduceLT,Nat.reduceLeDiff,reduceCtorEq,a_eq,a_neq,a_cast0,a_pred,a_app1,a_zero,Int.reduceToNat]
  rw [qs_nil (f := .b)]
  refine loopJ (fun i : Nat => i ≤ r) (fun i => ⟨[(1, I k), (2, .ref 0 0), (5, .rsl 1 1 0 r), (11, I r), (12, I i)], [⟨.own, T_impl_grid, [I r, I c, .sl .b 1 r (gC .b .b r c M)]⟩, ⟨.own, T_p_impl_ratio, qs .b (fillQ o i)⟩]⟩) (fun i => r - i) 0 (by omega) ?_ ?_
  · refine StI.ren [some 0, some 1] [[], []] lE (by decide) ?_ lW
    rw [fillQ_zero, hlo]
    simp -dsimp(disch:=first|exact om|fail)only[go_sem,↓reduceIte,Nat.reduceEqDiff,Nat.reduceAdd,Nat.reduceSub,Nat.reduceMul,Nat.reduceLT,Nat.reduceLeDiff,reduceCtorEq,a_eq,a_neq,a_cast0,a_pred,a_app1,a_zero,Int.reduceToNat]
  intro i hi
  by_cases h : i < r
  · have e2 : (fillQ o i).length = r := by simp [fillQ]; omega
    simp -dsimp(disch:=first|exact om|fail)only[go_sem,↓reduceIte,Nat.reduceEqDiff,Nat.reduceAdd,Nat.reduceSub,Nat.reduceMul,Nat.reduceLT,Nat.reduceLeDiff,reduceCtorEq,a_eq,a_neq,a_cast0,a_pred,a_app1,a_zero,Int.reduceToNat]
    refine ⟨i + 1, by omega, by omega, StI.ren [some 0, some 1] [[], []] lE (by decide) ?_ lW⟩
    rw [← hoi i h, fillQ_set (by omega) rfl]
    simp -dsimp(disch:=first|exact om|fail)only[go_sem,↓reduceIte,Nat.reduceEqDiff,Nat.reduceAdd,Nat.reduceSub,Nat.reduceMul,Nat.reduceLT,Nat.reduceLeDiff,reduceCtorEq,a_eq,a_neq,a_cast0,a_pred,a_app1,a_zero,Int.reduceToNat]
  · obtain rfl : i = r := by omega
    have e1 := fillQ_full (l := o)
    rw [hlo] at e1
    rw [e1]
    simp -dsimp(disch:=first|exact om|fail)only[go_sem,↓reduceIte,Nat.reduceEqDiff,Nat.reduceAdd,Nat.reduceSub,Nat.reduceMul,Nat.reduceLT,Nat.reduceLeDiff,reduceCtorEq,a_eq,a_neq,a_cast0,a_pred,a_app1,a_zero,Int.reduceToNat]
    exact RtB.nothing [some 1] (by decide) lW lW
theorem times1_b (r c k : Nat) (hr : r ≤ 24) (hc : c ≤ 24) (hk : k ≤ 24) (M N : Nat → Nat → FQ) (i j : Nat) (hi : i < r) (hj : j < k) :
    PB PP F_impl_grid_times_1 [I i, I j, .ptr .b [I r, I c, .sl .b 1 r (gC .b .b r c M)], .ptr .b [I c, I k, .sl .b 1 c (gC .b .b c k N)]] (pQ .s (sumQ (fun t => (M i t).mul (N t j)) c)) [] := by
  have q := inner_c .b .b .b .b flb flb flb flb (rowQ c (M i)) (rowQ c fun t => N t j) (by rw [rowQ_length, rowQ_length]) (by rw [rowQ_length]; omega)
  rw [rowQ_length, sumQ_congr (h := fun t => (M i t).mul (N t j)) (fun t ht => by rw [rowQ_get ht, rowQ_get ht])] at q
  have q2 := column_b c k hc hk N j hj
  have hl1 : (rowQ c (M i)).length = c := rowQ_length
  have hl2 : (rowQ c fun t => N t j).length = c := rowQ_length
  refine txb W_impl_grid_times_1 ke_impl_grid_times_1 [] [] [] (by kernel_rfl) ?_
  simp -dsimp(disch:=first|exact om|fail)only[go_sem,↓reduceIte,Nat.reduceEqDiff,Nat.reduceAdd,Nat.reduceSub,Nat.reduceMul,Nat.reduceLT,Nat.reduceLeDiff,reduceCtorEq,a_eq,a_neq,a_cast0,a_pred,a_app1,a_zero,Int.reduceToNat]
  refine callB' q2 lB lF ?_
  simp -dsimp(disch:=first|exact om|fail)only[go_sem,↓reduceIte,Nat.reduceEqDiff,Nat.reduceAdd,Nat.reduceSub,Nat.reduceMul,Nat.reduceLT,Nat.reduceLeDiff,reduceCtorEq,a_eq,a_neq,a_cast0,a_pred,a_app1,a_zero,Int.reduceToNat]
  refine callP q lW ?_
  simp -dsimp(disch:=first|exact om|fail)only[go_sem,↓reduceIte,Nat.reduceEqDiff,Nat.reduceAdd,Nat.reduceSub,Nat.reduceMul,Nat.reduceLT,Nat.reduceLeDiff,reduceCtorEq,a_eq,a_neq,a_cast0,a_pred,a_app1,a_zero,Int.reduceToNat]
  exact RtB.nothing [] (by decide) trivial lW
theorem times_b (r c k : Nat) (hr : r ≤ 24) (hc : c ≤ 24) (hk : k ≤ 24) (M N : Nat → Nat → FQ) : PB PP F_impl_grid_times [gV .b r c M, gV .b c k N] (gV .b r k (fun i j => sumQ (fun t => (M i t).mul (N t j)) c)) [] := by
  refine txb W_impl_grid_times ke_impl_grid_times [] [1] [] (by kernel_rfl) ?_
  simp -dsimp(disch:=first|exact om|fail)only[go_sem,↓reduceIte,Nat.reduceEqDiff,Nat.reduceAdd,Nat.reduceSub,Nat.reduceMul,Nat.reduceLT,Nat.reduceLeDiff,reduceCtorEq,a_eq,a_neq,a_cast0,a_pred,a_app1,a_zero,Int.reduceToNat]
  refine ⟨⟨[(2, .ptr .b [I r, I c, .sl .b 1 r (gC .b .b r c M)]), (3, .ptr .b [I c, I k, .sl .b 1 c (gC .b .b c k N)]), (4, .ref 0 0)], [⟨.own, T_impl_grid, [I 0, I 0, .emp]⟩]⟩, (StI.shareb 0 (cs' := [I r, I c, .sl .b 1 r (gC .b .b r c M)]) rfl lW lW lW).trans ((StI.shareb 1 (cs' := [I c, I k, .sl .b 1 c (gC .b .b c k N)]) rfl lW lW lW).trans (StI.ren [some 2] [[]] lE (by decide) lW lW)), ?_⟩
  simp -dsimp(disch:=first|exact om|fail)only[go_sem,↓reduceIte,Nat.reduceEqDiff,Nat.reduceAdd,Nat.reduceSub,Nat.reduceMul,Nat.reduceLT,Nat.reduceLeDiff,reduceCtorEq,a_eq,a_neq,a_cast0,a_pred,a_app1,a_zero,Int.reduceToNat]
  refine callB' (newGrid_b r k (by omega) (by omega) _ [] [.ptr .b [I r, I c, .sl .b 1 r (gC .b .b r c M)], .ptr .b [I c, I k, .sl .b 1 c (gC .b .b c k N)]] (by simp [V.fl1]) (fun i j => sumQ (fun t => (M i t).mul (N t j)) c) .s fls (fun i j hi hj => times1_b r c k hr hc hk M N i j hi hj)) ?_ lF ?_
  · simp [V.fl2, V.fl1]
  simp -dsimp(disch:=first|exact om|fail)only[go_sem,↓reduceIte,Nat.reduceEqDiff,Nat.reduceAdd,Nat.reduceSub,Nat.reduceMul,Nat.reduceLT,Nat.reduceLeDiff,reduceCtorEq,a_eq,a_neq,a_cast0,a_pred,a_app1,a_zero,Int.reduceToNat]
  exact RtB.nothing [] (by decide) trivial lW
def mulOk (a b : MD) : Bool := a.ok && b.ok && decide (a.cols = b.rows)
noncomputable def mulN (a b : MD) (i j : Nat) : FQ := sumQ (fun t => (a.at a.cols.toNat i t).mul (b.at b.cols.toNat t j)) a.cols.toNat
noncomputable def mulM (a b : MD) : MD × Bool := if mulOk a b = true then cloQ a.rows.toNat b.cols.toNat (mulN a b) else noM
theorem mulM_ok {a b : MD} {r c k : Nat} (h : mulOk a b = true) (ga : a.Good r c) (gb : b.Good c k) : mulM a b = cloQ r k (fun i j => sumQ (fun t => (a.at c i t).mul (b.at k t j)) c) := by
  unfold mulM mulN
  rw [if_pos h, show a.rows.toNat = r by rw [ga.er]; rfl, show b.cols.toNat = k by rw [gb.ec]; rfl, show a.cols.toNat = c by rw [ga.ec]; rfl]
theorem impl_Multiply_g (a b : MD) (f g : Fl) (hf : f ≠ .u) (hg : g ≠ .u) (ha : smallL a.cells) (hb : smallL b.cells) : GC PP F_impl_Multiply [mtV f a, mtV g b] [] (moG (mulM a b)) (mtH (mulM a b).1) := by
  obtain ⟨r, c, M, q1, u1, v1⟩ := open_any a f hf ha
  obtain ⟨r', c', N, q2, u2, v2⟩ := open_any b g hg hb
  cases k : mulOk a b
  · unfold mulM
    rw [if_neg (by rw [k]; simp)]
    refine txg W_impl_Multiply ke_impl_Multiply 0 [] [] [] rfl (by kernel_rfl) ?_
    simp -dsimp(disch:=first|exact om|fail)only[go_sem,↓reduceIte,Nat.reduceEqDiff,Nat.reduceAdd,Nat.reduceSub,Nat.reduceMul,Nat.reduceLT,Nat.reduceLeDiff,reduceCtorEq,a_eq,a_neq,a_cast0,a_pred,a_app1,a_zero,Int.reduceToNat]
    refine callB' q1 lB lF ?_
    simp -dsimp(disch:=first|exact om|fail)only[go_sem,↓reduceIte,Nat.reduceEqDiff,Nat.reduceAdd,Nat.reduceSub,Nat.reduceMul,Nat.reduceLT,Nat.reduceLeDiff,reduceCtorEq,a_eq,a_neq,a_cast0,a_pred,a_app1,a_zero,Int.reduceToNat]
    refine callB' q2 lB lF ?_
    cases k1 : a.ok
    · simp -dsimp(disch:=first|exact om|fail)only[go_sem,↓reduceIte,Nat.reduceEqDiff,Nat.reduceAdd,Nat.reduceSub,Nat.reduceMul,Nat.reduceLT,Nat.reduceLeDiff,reduceCtorEq,a_eq,a_neq,a_cast0,a_pred,a_app1,a_zero,Int.reduceToNat]
      exact rtG_noM
    · cases k2 : b.ok
      · simp -dsimp(disch:=first|exact om|fail)only[go_sem,↓reduceIte,Nat.reduceEqDiff,Nat.reduceAdd,Nat.reduceSub,Nat.reduceMul,Nat.reduceLT,Nat.reduceLeDiff,reduceCtorEq,a_eq,a_neq,a_cast0,a_pred,a_app1,a_zero,Int.reduceToNat]
        exact rtG_noM
      · obtain ⟨_, _, ga, _⟩ := u1 k1
        obtain ⟨_, _, gb, _⟩ := u2 k2
        have i2 := ga.ec; have i3 := gb.er
        by_cases h1 : c = r'
        · unfold mulOk at k
          rw [k1, k2, decide_eq_true (by omega)] at k
          exact absurd k (by decide)
        · simp -dsimp(disch:=first|exact om|fail)only[go_sem,↓reduceIte,Nat.reduceEqDiff,Nat.reduceAdd,Nat.reduceSub,Nat.reduceMul,Nat.reduceLT,Nat.reduceLeDiff,reduceCtorEq,a_eq,a_neq,a_cast0,a_pred,a_app1,a_zero,Int.reduceToNat, h1]
          exact rtG_noM
  · have k' := k
    unfold mulOk at k
    simp only [Bool.and_eq_true, decide_eq_true_eq] at k
    obtain ⟨⟨k1, k2⟩, e1⟩ := k
    obtain ⟨hr, hc, ga, rfl⟩ := u1 k1
    obtain ⟨_, hc', gb, rfl⟩ := u2 k2
    obtain rfl : c = r' := by have i2 := ga.ec; have i3 := gb.er; omega
    rw [mulM_ok k' ga gb]
    have q := closed_g r c' hr hc' .b flb (fun i j => sumQ (fun t => (a.at c i t).mul (b.at c' t j)) c)
    have qt := times_b r c c' hr hc hc' (a.at c) (b.at c')
    rw [k1] at q1
    rw [k2] at q2
    generalize cloQ r c' (fun i j => sumQ (fun t => (a.at c i t).mul (b.at c' t j)) c) = R at *
    generalize (fun i j => sumQ (fun t => (a.at c i t).mul (b.at c' t j)) c) = K at *
    generalize a.at c = M at *
    generalize b.at c' = N at *
    refine txg W_impl_Multiply ke_impl_Multiply 0 [] [] [] rfl (by kernel_rfl) ?_
    simp -dsimp(disch:=first|exact om|fail)only[go_sem,↓reduceIte,Nat.reduceEqDiff,Nat.reduceAdd,Nat.reduceSub,Nat.reduceMul,Nat.reduceLT,Nat.reduceLeDiff,reduceCtorEq,a_eq,a_neq,a_cast0,a_pred,a_app1,a_zero,Int.reduceToNat]
    refine callB' q1 lB lF ?_
    simp -dsimp(disch:=first|exact om|fail)only[go_sem,↓reduceIte,Nat.reduceEqDiff,Nat.reduceAdd,Nat.reduceSub,Nat.reduceMul,Nat.reduceLT,Nat.reduceLeDiff,reduceCtorEq,a_eq,a_neq,a_cast0,a_pred,a_app1,a_zero,Int.reduceToNat]
    refine callB' q2 lB lF ?_
    simp -dsimp(disch:=first|exact om|fail)only[go_sem,↓reduceIte,Nat.reduceEqDiff,Nat.reduceAdd,Nat.reduceSub,Nat.reduceMul,Nat.reduceLT,Nat.reduceLeDiff,reduceCtorEq,a_eq,a_neq,a_cast0,a_pred,a_app1,a_zero,Int.reduceToNat]
    refine callB' qt lB lF ?_
    simp -dsimp(disch:=first|exact om|fail)only[go_sem,↓reduceIte,Nat.reduceEqDiff,Nat.reduceAdd,Nat.reduceSub,Nat.reduceMul,Nat.reduceLT,Nat.reduceLeDiff,reduceCtorEq,a_eq,a_neq,a_cast0,a_pred,a_app1,a_zero,Int.reduceToNat]
    refine callO' q lL lF ?_
    simp -dsimp(disch:=first|exact om|fail)only[go_sem,↓reduceIte,Nat.reduceEqDiff,Nat.reduceAdd,Nat.reduceSub,Nat.reduceMul,Nat.reduceLT,Nat.reduceLeDiff,reduceCtorEq,a_eq,a_neq,a_cast0,a_pred,a_app1,a_zero,Int.reduceToNat]
    exact RtG.nothing [some 5] lE (by decide) (by simp -dsimp(disch:=first|exact om|fail)only[go_sem,↓reduceIte,Nat.reduceEqDiff,Nat.reduceAdd,Nat.reduceSub,Nat.reduceMul,Nat.reduceLT,Nat.reduceLeDiff,reduceCtorEq,a_eq,a_neq,a_cast0,a_pred,a_app1,a_zero,Int.reduceToNat, List.map_cons, List.map_nil]) lW
theorem applied_g (r c : Nat) (hr : r ≤ 24) (hc : c ≤ 24) (M : Nat → Nat → FQ) (f g : Fl) (hf : f ≠ .u) (hg : g ≠ .u) (x : List FQ) (hx : x.length = c) :
    GC PP F_impl_grid_applied [gV .b r c M, sQ f g x] [] (.rsl 0 1 0 r) [⟨.own, T_p_impl_ratio, qs .s (rowQ r fun i => sumQ (fun t => (M i t).mul (x.getD t FQ.bad)) c)⟩] := by
  have hq : ∀ i, PC PP F_impl_inner [sQ .b .b (rowQ c (M i)), sQ f g x] (pQ .s (sumQ (fun t => (M i t).mul (x.getD t FQ.bad)) c)) [] := by
    intro i
    have q := inner_c .b f .b g flb hf flb hg (rowQ c (M i)) x (by rw [rowQ_length, hx]) (by rw [rowQ_length]; omega)
    rwa [rowQ_length, sumQ_congr (h := fun t => (M i t).mul (x.getD t FQ.bad)) (fun t ht => by rw [rowQ_get ht])] at q
  have hlo : (rowQ r fun i => sumQ (fun t => (M i t).mul (x.getD t FQ.bad)) c).length = r := rowQ_length
  have hoi : ∀ i, i < r → (rowQ r fun i => sumQ (fun t => (M i t).mul (x.getD t FQ.bad)) c).getD i FQ.bad = sumQ (fun t => (M i t).mul (x.getD t FQ.bad)) c := fun i hi => rowQ_get hi
  generalize (rowQ r fun i => sumQ (fun t => (M i t).mul (x.getD t FQ.bad)) c) = o at *
  refine txg W_impl_grid_applied ke_impl_grid_applied 0 [] [] [] rfl (by kernel_rfl) ?_
  simp -dsimp(disch:=first|exact om|fail)only[go_sem,↓reduceIte,Nat.reduceEqDiff,Nat.reduceAdd,Nat.reduceSub,Nat.reduceMul,Nat.reduceLT,Nat.reduceLeDiff,reduceCtorEq,a_eq,a_neq,a_cast0,a_pred,a_app1,a_zero,Int.reduceToNat]
  rw [qs_nil (f := .s)]
  refine loopJ (fun i : Nat => i ≤ r) (fun i => ⟨[(1, sQ f g x), (2, .ref 0 0), (5, .rsl 1 1 0 r), (11, I r), (12, I i)], [⟨.own, T_impl_grid, [I r, I c, .sl .b 1 r (gC .b .b r c M)]⟩, ⟨.own, T_p_impl_ratio, qs .s (fillQ o i)⟩]⟩) (fun i => r - i) 0 (by omega) ?_ ?_
  · refine StI.ren [some 0, some 1] [[], []] lE (by decide) ?_ lW
    rw [fillQ_zero, hlo]
    simp -dsimp(disch:=first|exact om|fail)only[go_sem,↓reduceIte,Nat.reduceEqDiff,Nat.reduceAdd,Nat.reduceSub,Nat.reduceMul,Nat.reduceLT,Nat.reduceLeDiff,reduceCtorEq,a_eq,a_neq,a_cast0,a_pred,a_app1,a_zero,Int.reduceToNat]
  intro i hi
  by_cases h : i < r
  · have e2 : (fillQ o i).length = r := by simp [fillQ]; omega
    simp -dsimp(disch:=first|exact om|fail)only[go_sem,↓reduceIte,Nat.reduceEqDiff,Nat.reduceAdd,Nat.reduceSub,Nat.reduceMul,Nat.reduceLT,Nat.reduceLeDiff,reduceCtorEq,a_eq,a_neq,a_cast0,a_pred,a_app1,a_zero,Int.reduceToNat]
    refine callP (hq i) lW ?_
    rw [← hoi i h]
    simp -dsimp(disch:=first|exact om|fail)only[go_sem,↓reduceIte,Nat.reduceEqDiff,Nat.reduceAdd,Nat.reduceSub,Nat.reduceMul,Nat.reduceLT,Nat.reduceLeDiff,reduceCtorEq,a_eq,a_neq,a_cast0,a_pred,a_app1,a_zero,Int.reduceToNat]
    refine ⟨i + 1, by omega, by omega, StI.ren [some 0, some 1] [[], []] lE (by decide) ?_ lW⟩
    rw [fillQ_set (by omega) rfl]
    simp -dsimp(disch:=first|exact om|fail)only[go_sem,↓reduceIte,Nat.reduceEqDiff,Nat.reduceAdd,Nat.reduceSub,Nat.reduceMul,Nat.reduceLT,Nat.reduceLeDiff,reduceCtorEq,a_eq,a_neq,a_cast0,a_pred,a_app1,a_zero,Int.reduceToNat]
  · obtain rfl : i = r := by omega
    have e1 := fillQ_full (l := o)
    rw [hlo] at e1
    rw [e1]
    simp -dsimp(disch:=first|exact om|fail)only[go_sem,↓reduceIte,Nat.reduceEqDiff,Nat.reduceAdd,Nat.reduceSub,Nat.reduceMul,Nat.reduceLT,Nat.reduceLeDiff,reduceCtorEq,a_eq,a_neq,a_cast0,a_pred,a_app1,a_zero,Int.reduceToNat]
    exact RtG.nothing [some 1] lE (by decide) (by simp -dsimp(disch:=first|exact om|fail)only[go_sem,↓reduceIte,Nat.reduceEqDiff,Nat.reduceAdd,Nat.reduceSub,Nat.reduceMul,Nat.reduceLT,Nat.reduceLeDiff,reduceCtorEq,a_eq,a_neq,a_cast0,a_pred,a_app1,a_zero,Int.reduceToNat, List.map_cons, List.map_nil]) lW
end Go.Proofs.Ytpmjjdhnacmphaa
