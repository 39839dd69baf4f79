/- part of the proof -/
import Derived.Test.YtikmepdhpffdoaaGreatTXd
namespace Go.Proofs.YtikmepdhpffdoaaGreat
open Go Go.RowKit
set_option maxRecDepth 100000
set_option maxHeartbeats 4000000
set_option linter.unusedVariables false
set_option linter.unusedSimpArgs false
theorem open_any (m : MD) (f : Fl) (hf : f ≠ .u) (hs : smallL m.cells) : ∃ r c M, PB PP F_impl_Matrix_open [mtV f m] (.tup [gV .b r c M, Bo m.ok]) [] ∧ (m.ok = true → r ≤ 24 ∧ c ≤ 24 ∧ m.Good r c ∧ M = m.at c) ∧ (m.ok = false → r = 0 ∧ c = 0) := by
  cases ho : m.ok
  · exact ⟨0, 0, fun _ _ => FQ.bad, open_no m f hf ho hs, fun h => absurd h (by decide), fun _ => ⟨rfl, rfl⟩⟩
  · obtain ⟨r, c, hg⟩ := MD.ok_good ho
    exact ⟨r, c, m.at c, open_ok m f hf r c hg hs, fun _ => ⟨hg.r24, hg.c24, hg, rfl⟩, fun h => absurd h (by decide)⟩
theorem rtG_noM {H : List Ob} : RtG 0 H (.tup [.agg [I 0, I 0, .emp], Bo false]) (moG noM) (mtH noM.1) := RtG.ren [none] [[]] trivial (by decide) lW lW
theorem column_b (r c : Nat) (hr : r ≤ 24) (hc : c ≤ 24) (M : Nat → Nat → FQ) (k : Nat) (hk : k < c) : PB PP F_impl_grid_column [gV .b r c M, I k] (.rsl 0 1 0 r) [⟨.own, T_p_impl_ratio, qs .b (rowQ r fun i => M i k)⟩] := by
  have hlo : (rowQ r fun i => M i k).length = r := rowQ_length
  have hoi : ∀ i, i < r → (rowQ r fun i => M i k).getD i FQ.bad = M i k := fun i hi => rowQ_get hi
  generalize (rowQ r fun i => M i k) = o at *
  refine txb W_impl_grid_column ke_impl_grid_column [] [] [] (by kernel_rfl) ?_
  simp -dsimp(disch:=first|exact om|fail)only[go_sem,↓reduceIte,Nat.reduceEqDiff,Nat.reduceAdd,Nat.reduceSub,Nat.reduceMul,Nat.reduceLT,Nat.reduceLeDiff,reduceCtorEq,a_eq,a_neq,a_cast0,a_pred,a_app1,a_zero,Int.reduceToNat]
  rw [qs_nil (f := .b)]
  refine loopJ (fun i : Nat => i ≤ r) (fun i => ⟨[(1, I k), (2, .ref 0 0), (5, .rsl 1 1 0 r), (11, I r), (12, I i)], [⟨.own, T_impl_grid, [I r, I c, .sl .b 1 r (gC .b .b r c M)]⟩, ⟨.own, T_p_impl_ratio, qs .b (fillQ o i)⟩]⟩) (fun i => r - i) 0 (by omega) ?_ ?_
  · refine StI.ren [some 0, some 1] [[], []] lE (by decide) ?_ lW
    rw [fillQ_zero, hlo]
    simp -dsimp(disch:=first|exact om|fail)only[go_sem,↓reduceIte,Nat.reduceEqDiff,Nat.reduceAdd,Nat.reduceSub,Nat.reduceMul,Nat.reduceLT,Nat.reduceLeDiff,reduceCtorEq,a_eq,a_neq,a_cast0,a_pred,a_app1,a_zero,Int.reduceToNat]
  intro i hi
  by_cases h : i < r
  · have e2 : (fillQ o i).length = r := by simp [fillQ]; omega
    simp -dsimp(disch:=first|exact om|fail)only[go_sem,↓reduceIte,Nat.reduceEqDiff,Nat.reduceAdd,Nat.reduceSub,Nat.reduceMul,Nat.reduceLT,Nat.reduceLeDiff,reduceCtorEq,a_eq,a_neq,a_cast0,a_pred,a_app1,a_zero,Int.reduceToNat]
    refine ⟨i + 1, by omega, by omega, StI.ren [some 0, some 1] [[], []] lE (by decide) ?_ lW⟩
    rw [← hoi i h, fillQ_set (by omega) rfl]
    simp -dsimp(disch:=first|exact om|fail)only[go_sem,↓reduceIte,Nat.reduceEqDiff,Nat.reduceAdd,Nat.reduceSub,Nat.reduceMul,Nat.reduceLT,Nat.reduceLeDiff,reduceCtorEq,a_eq,a_neq,a_cast0,a_pred,a_app1,a_zero,Int.reduceToNat]
  · obtain rfl : i = r := by omega
    have e1 := fillQ_full (l := o)
    rw [hlo] at e1
    rw [e1]
    simp -dsimp(disch:=first|exact om|fail)only[go_sem,↓reduceIte,Nat.reduceEqDiff,Nat.reduceAdd,Nat.reduceSub,Nat.reduceMul,Nat.reduceLT,Nat.reduceLeDiff,reduceCtorEq,a_eq,a_neq,a_cast0,a_pred,a_app1,a_zero,Int.reduceToNat]
    exact RtB.nothing [some 1] (by decide) lW lW
theorem times1_b (r c k : Nat) (hr : r ≤ 24) (hc : c ≤ 24) (hk : k ≤ 24) (M N : Nat → Nat → FQ) (i j : Nat) (hi : i < r) (hj : j < k) :
    PB PP F_impl_grid_times_1 [I i, I j, .ptr .b [I r, I c, .sl .b 1 r (gC .b .b r c M)], .ptr .b [I c, I k, .sl .b 1 c (gC .b .b c k N)]] (pQ .s (sumQ (fun t => (M i t).mul (N t j)) c)) [] := by
  have q := inner_c .b .b .b .b flb flb flb flb (rowQ c (M i)) (rowQ c fun t => N t j) (by rw [rowQ_length, rowQ_length]) (by rw [rowQ_length]; omega)
  rw [rowQ_length, sumQ_congr (h := fun t => (M i t).mul (N t j)) (fun t ht => by rw [rowQ_get ht, rowQ_get ht])] at q
  have q2 := column_b c k hc hk N j hj
  have hl1 : (rowQ c (M i)).length = c := rowQ_length
  have hl2 : (rowQ c fun t => N t j).length = c := rowQ_length
  refine txb W_impl_grid_times_1 ke_impl_grid_times_1 [] [] [] (by kernel_rfl) ?_
  simp -dsimp(disch:=first|exact om|fail)only[go_sem,↓reduceIte,Nat.reduceEqDiff,Nat.reduceAdd,Nat.reduceSub,Nat.reduceMul,Nat.reduceLT,Nat.reduceLeDiff,reduceCtorEq,a_eq,a_neq,a_cast0,a_pred,a_app1,a_zero,Int.reduceToNat]
  refine callB' q2 lB lF ?_
  simp -dsimp(disch:=first|exact om|fail)only[go_sem,↓reduceIte,Nat.reduceEqDiff,Nat.reduceAdd,Nat.reduceSub,Nat.reduceMul,Nat.reduceLT,Nat.reduceLeDiff,reduceCtorEq,a_eq,a_neq,a_cast0,a_pred,a_app1,a_zero,Int.reduceToNat]
  refine callP q lW ?_
  simp -dsimp(disch:=first|exact om|fail)only[go_sem,↓reduceIte,Nat.reduceEqDiff,Nat.reduceAdd,Nat.reduceSub,Nat.reduceMul,Nat.reduceLT,Nat.reduceLeDiff,reduceCtorEq,a_eq,a_neq,a_cast0,a_pred,a_app1,a_zero,Int.reduceToNat]
  exact RtB.nothing [] (by decide) trivial lW
theorem times_b (r c k : Nat) (hr : r ≤ 24) (hc : c ≤ 24) (hk : k ≤ 24) (M N : Nat → Nat → FQ) : PB PP F_impl_grid_times [gV .b r c M, gV .b c k N] (gV .b r k (fun i j => sumQ (fun t => (M i t).mul (N t j)) c)) [] := by
  refine txb W_impl_grid_times ke_impl_grid_times [] [1] [] (by kernel_rfl) ?_
  simp -dsimp(disch:=first|exact om|fail)only[go_sem,↓reduceIte,Nat.reduceEqDiff,Nat.reduceAdd,Nat.reduceSub,Nat.reduceMul,Nat.reduceLT,Nat.reduceLeDiff,reduceCtorEq,a_eq,a_neq,a_cast0,a_pred,a_app1,a_zero,Int.reduceToNat]
  refine ⟨⟨[(2, .ptr .b [I r, I c, .sl .b 1 r (gC .b .b r c M)]), (3, .ptr .b [I c, I k, .sl .b 1 c (gC .b .b c k N)]), (4, .ref 0 0)], [⟨.own, T_impl_grid, [I 0, I 0, .emp]⟩]⟩, (StI.shareb 0 (cs' := [I r, I c, .sl .b 1 r (gC .b .b r c M)]) rfl lW lW lW).trans ((StI.shareb 1 (cs' := [I c, I k, .sl .b 1 c (gC .b .b c k N)]) rfl lW lW lW).trans (StI.ren [some 2] [[]] lE (by decide) lW lW)), ?_⟩
  simp -dsimp(disch:=first|exact om|fail)only[go_sem,↓reduceIte,Nat.reduceEqDiff,Nat.reduceAdd,Nat.reduceSub,Nat.reduceMul,Nat.reduceLT,Nat.reduceLeDiff,reduceCtorEq,a_eq,a_neq,a_cast0,a_pred,a_app1,a_zero,Int.reduceToNat]
  refine callB' (newGrid_b r k (by omega) (by omega) _ [] [.ptr .b [I r, I c, .sl .b 1 r (gC .b .b r c M)], .ptr .b [I c, I k, .sl .b 1 c (gC .b .b c k N)]] (by simp [V.fl1]) (fun i j => sumQ (fun t => (M i t).mul (N t j)) c) .s fls (fun i j hi hj => times1_b r c k hr hc hk M N i j hi hj)) ?_ lF ?_
  · simp [V.fl2, V.fl1]
  simp -dsimp(disch:=first|exact om|fail)only[go_sem,↓reduceIte,Nat.reduceEqDiff,Nat.reduceAdd,Nat.reduceSub,Nat.reduceMul,Nat.reduceLT,Nat.reduceLeDiff,reduceCtorEq,a_eq,a_neq,a_cast0,a_pred,a_app1,a_zero,Int.reduceToNat]
  exact RtB.nothing [] (by decide) trivial lW
def mulOk (a b : MD) : Bool := a.ok && b.ok && decide (a.cols = b.rows)
noncomputable def mulN (a b : MD) (i j : Nat) : FQ := sumQ (fun t => (a.at a.cols.toNat i t).mul (b.at b.cols.toNat t j)) a.cols.toNat
noncomputable def mulM (a b : MD) : MD × Bool := if mulOk a b = true then cloQ a.rows.toNat b.cols.toNat (mulN a b) else noM
theorem mulM_ok {a b : MD} {r c k : Nat} (h : mulOk a b = true) (ga : a.Good r c) (gb : b.Good c k) : mulM a b = cloQ r k (fun i j => sumQ (fun t => (a.at c i t).mul (b.at k t j)) c) := by
  unfold mulM mulN
  rw [if_pos h, show a.rows.toNat = r by rw [ga.er]; rfl, show b.cols.toNat = k by rw [gb.ec]; rfl, show a.cols.toNat = c by rw [ga.ec]; rfl]
theorem impl_Multiply_g (a b : MD) (f g : Fl) (hf : f ≠ .u) (hg : g ≠ .u) (ha : smallL a.cells) (hb : smallL b.cells) : GC PP F_impl_Multiply [mtV f a, mtV g b] [] (moG (mulM a b)) (mtH (mulM a b).1) := by
  obtain ⟨r, c, M, q1, u1, v1⟩ := open_any a f hf ha
  obtain ⟨r', c', N, q2, u2, v2⟩ := open_any b g hg hb
  cases k : mulOk a b
  · unfold mulM
    rw [if_neg (by rw [k]; simp)]
    refine txg W_impl_Multiply ke_impl_Multiply 0 [] [] [] rfl (by kernel_rfl) ?_
    simp -dsimp(disch:=first|exact om|fail)only[go_sem,↓reduceIte,Nat.reduceEqDiff,Nat.reduceAdd,Nat.reduceSub,Nat.reduceMul,Nat.reduceLT,Nat.reduceLeDiff,reduceCtorEq,a_eq,a_neq,a_cast0,a_pred,a_app1,a_zero,Int.reduceToNat]
    refine callB' q1 lB lF ?_
    simp -dsimp(disch:=first|exact om|fail)only[go_sem,↓reduceIte,Nat.reduceEqDiff,Nat.reduceAdd,Nat.reduceSub,Nat.reduceMul,Nat.reduceLT,Nat.reduceLeDiff,reduceCtorEq,a_eq,a_neq,a_cast0,a_pred,a_app1,a_zero,Int.reduceToNat]
    refine callB' q2 lB lF ?_
    cases k1 : a.ok
    · simp -dsimp(disch:=first|exact om|fail)only[go_sem,↓reduceIte,Nat.reduceEqDiff,Nat.reduceAdd,Nat.reduceSub,Nat.reduceMul,Nat.reduceLT,Nat.reduceLeDiff,reduceCtorEq,a_eq,a_neq,a_cast0,a_pred,a_app1,a_zero,Int.reduceToNat]
      exact rtG_noM
    · cases k2 : b.ok
      · simp -dsimp(disch:=first|exact om|fail)only[go_sem,↓reduceIte,Nat.reduceEqDiff,Nat.reduceAdd,Nat.reduceSub,Nat.reduceMul,Nat.reduceLT,Nat.reduceLeDiff,reduceCtorEq,a_eq,a_neq,a_cast0,a_pred,a_app1,a_zero,Int.reduceToNat]
        exact rtG_noM
      · obtain ⟨_, _, ga, _⟩ := u1 k1
        obtain ⟨_, _, gb, _⟩ := u2 k2
        have i2 := ga.ec; have i3 := gb.er
        by_cases h1 : c = r'
        · unfold mulOk at k
          rw [k1, k2, decide_eq_true (by omega)] at k
          exact absurd k (by decide)
        · simp -dsimp(disch:=first|exact om|fail)only[go_sem,↓reduceIte,Nat.reduceEqDiff,Nat.reduceAdd,Nat.reduceSub,Nat.reduceMul,Nat.reduceLT,Nat.reduceLeDiff,reduceCtorEq,a_eq,a_neq,a_cast0,a_pred,a_app1,a_zero,Int.reduceToNat, h1]
          exact rtG_noM
  · have k' := k
    unfold mulOk at k
    simp only [Bool.and_eq_true, decide_eq_true_eq] at k
    obtain ⟨⟨k1, k2⟩, e1⟩ := k
    obtain ⟨hr, hc, ga, rfl⟩ := u1 k1
    obtain ⟨_, hc', gb, rfl⟩ := u2 k2
    obtain rfl : c = r' := by have i2 := ga.ec; have i3 := gb.er; omega
    rw [mulM_ok k' ga gb]
    have q := closed_g r c' hr hc' .b flb (fun i j => sumQ (fun t => (a.at c i t).mul (b.at c' t j)) c)
    have qt := times_b r c c' hr hc hc' (a.at c) (b.at c')
    rw [k1] at q1
    rw [k2] at q2
    generalize cloQ r c' (fun i j => sumQ (fun t => (a.at c i t).mul (b.at c' t j)) c) = R at *
    generalize (fun i j => sumQ (fun t => (a.at c i t).mul (b.at c' t j)) c) = K at *
    generalize a.at c = M at *
    generalize b.at c' = N at *
    refine txg W_impl_Multiply ke_impl_Multiply 0 [] [] [] rfl (by kernel_rfl) ?_
    simp -dsimp(disch:=first|exact om|fail)only[go_sem,↓reduceIte,Nat.reduceEqDiff,Nat.reduceAdd,Nat.reduceSub,Nat.reduceMul,Nat.reduceLT,Nat.reduceLeDiff,reduceCtorEq,a_eq,a_neq,a_cast0,a_pred,a_app1,a_zero,Int.reduceToNat]
    refine callB' q1 lB lF ?_
    simp -dsimp(disch:=first|exact om|fail)only[go_sem,↓reduceIte,Nat.reduceEqDiff,Nat.reduceAdd,Nat.reduceSub,Nat.reduceMul,Nat.reduceLT,Nat.reduceLeDiff,reduceCtorEq,a_eq,a_neq,a_cast0,a_pred,a_app1,a_zero,Int.reduceToNat]
    refine callB' q2 lB lF ?_
    simp -dsimp(disch:=first|exact om|fail)only[go_sem,↓reduceIte,Nat.reduceEqDiff,Nat.reduceAdd,Nat.reduceSub,Nat.reduceMul,Nat.reduceLT,Nat.reduceLeDiff,reduceCtorEq,a_eq,a_neq,a_cast0,a_pred,a_app1,a_zero,Int.reduceToNat]
    refine callB' qt lB lF ?_
    simp -dsimp(disch:=first|exact om|fail)only[go_sem,↓reduceIte,Nat.reduceEqDiff,Nat.reduceAdd,Nat.reduceSub,Nat.reduceMul,Nat.reduceLT,Nat.reduceLeDiff,reduceCtorEq,a_eq,a_neq,a_cast0,a_pred,a_app1,a_zero,Int.reduceToNat]
    refine callO' q lL lF ?_
    simp -dsimp(disch:=first|exact om|fail)only[go_sem,↓reduceIte,Nat.reduceEqDiff,Nat.reduceAdd,Nat.reduceSub,Nat.reduceMul,Nat.reduceLT,Nat.reduceLeDiff,reduceCtorEq,a_eq,a_neq,a_cast0,a_pred,a_app1,a_zero,Int.reduceToNat]
    exact RtG.nothing [some 5] lE (by decide) (by simp -dsimp(disch:=first|exact om|fail)only[go_sem,↓reduceIte,Nat.reduceEqDiff,Nat.reduceAdd,Nat.reduceSub,Nat.reduceMul,Nat.reduceLT,Nat.reduceLeDiff,reduceCtorEq,a_eq,a_neq,a_cast0,a_pred,a_app1,a_zero,Int.reduceToNat, List.map_cons, List.map_nil]) lW
theorem applied_g (r c : Nat) (hr : r ≤ 24) (hc : c ≤ 24) (M : Nat → Nat → FQ) (f g : Fl) (hf : f ≠ .u) (hg : g ≠ .u) (x : List FQ) (hx : x.length = c) :
    GC PP F_impl_grid_applied [gV .b r c M, sQ f g x] [] (.rsl 0 1 0 r) [⟨.own, T_p_impl_ratio, qs .s (rowQ r fun i => sumQ (fun t => (M i t).mul (x.getD t FQ.bad)) c)⟩] := by
  have hq : ∀ i, PC PP F_impl_inner [sQ .b .b (rowQ c (M i)), sQ f g x] (pQ .s (sumQ (fun t => (M i t).mul (x.getD t FQ.bad)) c)) [] := by
    intro i
    have q := inner_c .b f .b g flb hf flb hg (rowQ c (M i)) x (by rw [rowQ_length, hx]) (by rw [rowQ_length]; omega)
    rwa [rowQ_length, sumQ_congr (h := fun t => (M i t).mul (x.getD t FQ.bad)) (fun t ht => by rw [rowQ_get ht])] at q
  have hlo : (rowQ r fun i => sumQ (fun t => (M i t).mul (x.getD t FQ.bad)) c).length = r := rowQ_length
  have hoi : ∀ i, i < r → (rowQ r fun i => sumQ (fun t => (M i t).mul (x.getD t FQ.bad)) c).getD i FQ.bad = sumQ (fun t => (M i t).mul (x.getD t FQ.bad)) c := fun i hi => rowQ_get hi
  generalize (rowQ r fun i => sumQ (fun t => (M i t).mul (x.getD t FQ.bad)) c) = o at *
  refine txg W_impl_grid_applied ke_impl_grid_applied 0 [] [] [] rfl (by kernel_rfl) ?_
  simp -dsimp(disch:=first|exact om|fail)only[go_sem,↓reduceIte,Nat.reduceEqDiff,Nat.reduceAdd,Nat.reduceSub,Nat.reduceMul,Nat.reduceLT,Nat.reduceLeDiff,reduceCtorEq,a_eq,a_neq,a_cast0,a_pred,a_app1,a_zero,Int.reduceToNat]
  rw [qs_nil (f := .s)]
  refine loopJ (fun i : Nat => i ≤ r) (fun i => ⟨[(1, sQ f g x), (2, .ref 0 0), (5, .rsl 1 1 0 r), (11, I r), (12, I i)], [⟨.own, T_impl_grid, [I r, I c, .sl .b 1 r (gC .b .b r c M)]⟩, ⟨.own, T_p_impl_ratio, qs .s (fillQ o i)⟩]⟩) (fun i => r - i) 0 (by omega) ?_ ?_
  · refine StI.ren [some 0, some 1] [[], []] lE (by decide) ?_ lW
    rw [fillQ_zero, hlo]
    simp -dsimp(disch:=first|exact om|fail)only[go_sem,↓reduceIte,Nat.reduceEqDiff,Nat.reduceAdd,Nat.reduceSub,Nat.reduceMul,Nat.reduceLT,Nat.reduceLeDiff,reduceCtorEq,a_eq,a_neq,a_cast0,a_pred,a_app1,a_zero,Int.reduceToNat]
  intro i hi
  by_cases h : i < r
  · have e2 : (fillQ o i).length = r := by simp [fillQ]; omega
    simp -dsimp(disch:=first|exact om|fail)only[go_sem,↓reduceIte,Nat.reduceEqDiff,Nat.reduceAdd,Nat.reduceSub,Nat.reduceMul,Nat.reduceLT,Nat.reduceLeDiff,reduceCtorEq,a_eq,a_neq,a_cast0,a_pred,a_app1,a_zero,Int.reduceToNat]
    refine callP (hq i) lW ?_
    rw [← hoi i h]
    simp -dsimp(disch:=first|exact om|fail)only[go_sem,↓reduceIte,Nat.reduceEqDiff,Nat.reduceAdd,Nat.reduceSub,Nat.reduceMul,Nat.reduceLT,Nat.reduceLeDiff,reduceCtorEq,a_eq,a_neq,a_cast0,a_pred,a_app1,a_zero,Int.reduceToNat]
    refine ⟨i + 1, by omega, by omega, StI.ren [some 0, some 1] [[], []] lE (by decide) ?_ lW⟩
    rw [fillQ_set (by omega) rfl]
    simp -dsimp(disch:=first|exact om|fail)only[go_sem,↓reduceIte,Nat.reduceEqDiff,Nat.reduceAdd,Nat.reduceSub,Nat.reduceMul,Nat.reduceLT,Nat.reduceLeDiff,reduceCtorEq,a_eq,a_neq,a_cast0,a_pred,a_app1,a_zero,Int.reduceToNat]
  · obtain rfl : i = r := by omega
    have e1 := fillQ_full (l := o)
    rw [hlo] at e1
    rw [e1]
    simp -dsimp(disch:=first|exact om|fail)only[go_sem,↓reduceIte,Nat.reduceEqDiff,Nat.reduceAdd,Nat.reduceSub,Nat.reduceMul,Nat.reduceLT,Nat.reduceLeDiff,reduceCtorEq,a_eq,a_neq,a_cast0,a_pred,a_app1,a_zero,Int.reduceToNat]
    exact RtG.nothing [some 1] lE (by decide) (by simp -dsimp(disch:=first|exact om|fail)only[go_sem,↓reduceIte,Nat.reduceEqDiff,Nat.reduceAdd,Nat.reduceSub,Nat.reduceMul,Nat.reduceLT,Nat.reduceLeDiff,reduceCtorEq,a_eq,a_neq,a_cast0,a_pred,a_app1,a_zero,Int.reduceToNat, List.map_cons, List.map_nil]) lW
end Go.Proofs.YtikmepdhpffdoaaGreat

namespace Go.Proofs.YtikmepdhpffdoaaGreat
open Go Go.RowKit
set_option maxRecDepth 100000
set_option maxHeartbeats 4000000
set_option linter.unusedVariables false
set_option linter.unusedSimpArgs false
mutual
def V.tb : V → V
  | .ptr .s cs => .ptr .b (V.tbL cs)
  | .sl .s sz n cs => .sl .b sz n (V.tbL cs)
  | .agg vs => .agg (V.tbL vs)
  | .tup vs => .tup (V.tbL vs)
  | v => v
def V.tbL : List V → List V
  | [] => []
  | v :: vs => V.tb v :: V.tbL vs
end
mutual
def V.onlyS : V → Prop
  | .any | .lit _ | .emp => True
  | .ptr .s cs => V.onlySL cs
  | .sl .s _ _ cs => V.onlySL cs
  | .agg vs => V.onlySL vs
  | .tup vs => V.onlySL vs
  | .rsl _ _ _ _ | .ref _ _ => True
  | _ => False
def V.onlySL : List V → Prop
  | [] => True
  | v :: vs => V.onlyS v ∧ V.onlySL vs
end
theorem tbL_length : ∀ {vs : List V}, (V.tbL vs).length = vs.length
  | [] => rfl
  | v :: vs => by rw [V.tbL, List.length_cons, List.length_cons, tbL_length]
section
variable {w : World} {S B T : BS}
mutual
theorem Rep.of_tb (hT : ∀ b, S b ∨ B b → T b) : ∀ (κ : KM) (v : V) (x : Value) (us : List Nat), v.onlyS → Rep w S B κ v.tb x us → Rep w T (fun _ => False) κ v x us
  | κ, .any, x, us, _, h => h
  | κ, .lit _, x, us, _, h => h
  | κ, .emp, x, us, _, h => h
  | κ, .ptr .s cs, x, us, ho, ⟨b, o, u, h1, h2, h3⟩ => ⟨b, o, u, h1, Mem.of_tb hT [] cs b o u ho h2, hT b h3.1, h3.2⟩
  | κ, .sl .s sz n cs, x, us, ho, ⟨a, c, h1, h2, h3, h4, h5⟩ => by
    refine ⟨a, c, h1, h2, h3, by rw [tbL_length] at h4; exact h4, ?_⟩
    rcases h5 with ⟨h5, h6⟩ | ⟨b, o, u, e, h6, h7⟩
    · exact .inl ⟨h5, h6.1, fun h => by cases h⟩
    · exact .inr ⟨b, o, u, e, Mem.of_tb hT [] cs b o u ho h6, hT b h7.1, h7.2⟩
  | κ, .agg vs, x, us, ho, ⟨xs, h1, h2⟩ => ⟨xs, h1, RepL.of_tb hT κ vs _ us ho h2⟩
  | κ, .tup vs, x, us, ho, ⟨xs, h1, h2⟩ => ⟨xs, h1, RepL.of_tb hT κ vs _ us ho h2⟩
  | κ, .ref _ _, x, us, _, h => h
  | κ, .rsl _ _ _ _, x, us, _, h => h
theorem RepL.of_tb (hT : ∀ b, S b ∨ B b → T b) : ∀ (κ : KM) (vs : List V) (xs : List Value) (us : List Nat), V.onlySL vs → RepL w S B κ (V.tbL vs) xs us → RepL w T (fun _ => False) κ vs xs us
  | κ, [], xs, us, _, h => h
  | κ, v :: vs, xs, us, ho, ⟨x, xs', u1, u2, h1, h2, h3, h4⟩ => ⟨x, xs', u1, u2, h1, h2, Rep.of_tb hT κ v x u1 ho.1 h3, RepL.of_tb hT κ vs xs' u2 ho.2 h4⟩
theorem Mem.of_tb (hT : ∀ b, S b ∨ B b → T b) : ∀ (κ : KM) (cs : List V) (b o : Nat) (us : List Nat), V.onlySL cs → Mem w S B κ (V.tbL cs) b o us → Mem w T (fun _ => False) κ cs b o us
  | κ, [], b, o, us, _, h => h
  | κ, v :: vs, b, o, us, ho, ⟨x, u1, u2, h1, h2, h3, h4⟩ => ⟨x, u1, u2, h1, h2, Rep.of_tb hT κ v x u1 ho.1 h3, Mem.of_tb hT κ vs b (o + 1) u2 ho.2 h4⟩
end
mutual
theorem Rep.to_tb (hT : ∀ b, T b → S b ∨ B b) : ∀ (κ : KM) (v : V) (x : Value) (us : List Nat), v.onlyS → Rep w T (fun _ => False) κ v x us → Rep w S B κ v.tb x us
  | κ, .any, x, us, _, h => h
  | κ, .lit _, x, us, _, h => h
  | κ, .emp, x, us, _, h => h
  | κ, .ptr .s cs, x, us, ho, ⟨b, o, u, h1, h2, h3⟩ => ⟨b, o, u, h1, Mem.to_tb hT [] cs b o u ho h2, hT b h3.1, h3.2⟩
  | κ, .sl .s sz n cs, x, us, ho, ⟨a, c, h1, h2, h3, h4, h5⟩ => by
    refine ⟨a, c, h1, h2, h3, by rw [tbL_length]; exact h4, ?_⟩
    rcases h5 with ⟨h5, h6⟩ | ⟨b, o, u, e, h6, h7⟩
    · exact .inl ⟨h5, h6.1, fun h => by cases h⟩
    · exact .inr ⟨b, o, u, e, Mem.to_tb hT [] cs b o u ho h6, hT b h7.1, h7.2⟩
  | κ, .agg vs, x, us, ho, ⟨xs, h1, h2⟩ => ⟨xs, h1, RepL.to_tb hT κ vs _ us ho h2⟩
  | κ, .tup vs, x, us, ho, ⟨xs, h1, h2⟩ => ⟨xs, h1, RepL.to_tb hT κ vs _ us ho h2⟩
  | κ, .ref _ _, x, us, _, h => h
  | κ, .rsl _ _ _ _, x, us, _, h => h
theorem RepL.to_tb (hT : ∀ b, T b → S b ∨ B b) : ∀ (κ : KM) (vs : List V) (xs : List Value) (us : List Nat), V.onlySL vs → RepL w T (fun _ => False) κ vs xs us → RepL w S B κ (V.tbL vs) xs us
  | κ, [], xs, us, _, h => h
  | κ, v :: vs, xs, us, ho, ⟨x, xs', u1, u2, h1, h2, h3, h4⟩ => ⟨x, xs', u1, u2, h1, h2, Rep.to_tb hT κ v x u1 ho.1 h3, RepL.to_tb hT κ vs xs' u2 ho.2 h4⟩
theorem Mem.to_tb (hT : ∀ b, T b → S b ∨ B b) : ∀ (κ : KM) (cs : List V) (b o : Nat) (us : List Nat), V.onlySL cs → Mem w T (fun _ => False) κ cs b o us → Mem w S B κ (V.tbL cs) b o us
  | κ, [], b, o, us, _, h => h
  | κ, v :: vs, b, o, us, ho, ⟨x, u1, u2, h1, h2, h3, h4⟩ => ⟨x, u1, u2, h1, h2, Rep.to_tb hT κ v x u1 ho.1 h3, Mem.to_tb hT κ vs b (o + 1) u2 ho.2 h4⟩
end
end
theorem PC.lent {P : Program} {f : FuncId} {args : List V} {r : V} {objs : List Ob} (h : PC P f args r objs) (ha : V.onlySL args) (hr : r.onlyS) (ho : ∀ ob ∈ objs, ob.st = .own ∧ V.onlySL ob.cs) :
    PB P f (V.tbL args) r.tb (objs.map fun ob => { ob with cs := V.tbL ob.cs }) := by
  refine ⟨h.1, fun w S B xs hb hrep => ?_⟩
  have hb' : ∀ b, (S b ∨ B b) ∨ False → b < w.heap.size := fun b hx => hb b (hx.elim id False.elim)
  refine (h.2 w (fun b => S b ∨ B b) (fun _ => False) xs hb' (RepL.of_tb (fun _ h => h) [] args xs [] ha hrep)).mono ?_
  rintro e w' ⟨x, rfl, hbl, κ, S', uss, h1, h2, h3, h4, h5, h6, h7, h8, h9⟩
  have hT : ∀ b, S' b → (S' b ∧ (S b ∨ w.heap.size ≤ b)) ∨ B b := by
    intro b hs
    rcases h2 b hs with (q | q) | q
    · exact .inl ⟨hs, .inl q⟩
    · exact .inr q
    · exact .inl ⟨hs, .inr q.1⟩
  refine ⟨x, rfl, hbl, κ, fun b => S' b ∧ (S b ∨ w.heap.size ≤ b), uss, fun b hs => ⟨h1 b (.inl hs), .inl hs⟩, ?_, Rep.to_tb hT κ r x [] hr h3, by simpa using h4, ?_, by simpa using h6, ?_, h8, fun b hb => ⟨(h9 b hb).1, (h9 b hb).2.1, fun hs => (h9 b hb).2.2 hs.1⟩⟩
  · rintro b ⟨hs, q | q⟩
    · exact .inl q
    · rcases h2 b hs with (q' | q') | q'
      · exact .inl q'
      · have := hb b (.inr q'); omega
      · exact .inr q'
  · intro i ob a st
    rw [List.getElem?_map] at a
    cases e : objs[i]? with
    | none => rw [e] at a; simp at a
    | some ob' =>
      rw [e] at a
      simp only [Option.map_some, Option.some.injEq] at a
      exact h5 i ob' e (.inl (ho ob' (List.mem_of_getElem? e)).1)
  · intro i ob k us a b c
    rw [List.getElem?_map] at a
    cases e : objs[i]? with
    | none => rw [e] at a; simp at a
    | some ob' =>
      rw [e] at a
      simp only [Option.map_some, Option.some.injEq] at a
      subst a
      have q := h7 i ob' k us e b c
      obtain ⟨st, ty, cs⟩ := ob'
      obtain ⟨rfl, ho2⟩ := ho _ (List.mem_of_getElem? e)
      rcases q with ⟨q1, q2, q3⟩ | ⟨b', arr, u, q1, q2, q3, q4⟩
      · have q2 : cs = [] := q2
        subst q2
        exact .inl ⟨q1, rfl, q3⟩
      · exact .inr ⟨b', arr, u, q1, q2, q3, Mem.to_tb hT κ cs b' 0 u ho2 q4⟩
theorem impl_ratio_by_c (f g : Fl) (hf : f ≠ .u) (hg : g ≠ .u) (r s : Rat) (hs : s ≠ 0) (h1 : (lim r.num.natAbs).length ≤ 1000) (h2 : (lim r.den).length ≤ 1000) (h3 : (lim s.num.natAbs).length ≤ 1000) (h4 : (lim s.den).length ≤ 1000) : PC PP F_impl_ratio_by [pR f r, pR g s] (pR .s (r / s)) [] := by
  refine tx W_impl_ratio_by ke_impl_ratio_by [] (by kernel_rfl) ?_
  have hn : s.num ≠ 0 := fun h => hs (Rat.num_eq_zero.1 h)
  have m1 := lim_mul_len (a := r.num.natAbs) (d := s.den)
  have m3 := lim_mul_len (a := r.den) (d := s.num.natAbs)
  simp -dsimp(disch:=first|exact om|fail)only[go_sem,↓reduceIte,Nat.reduceEqDiff,Nat.reduceAdd,Nat.reduceSub,Nat.reduceMul,Nat.reduceLT,Nat.reduceLeDiff,reduceCtorEq,a_eq,a_neq,a_cast0,a_pred,a_app1,a_zero,Int.reduceToNat]
  refine callP (times_c f g hf hg r.num.natAbs s.den (by omega) (by omega)) lL ?_
  simp -dsimp(disch:=first|exact om|fail)only[go_sem,↓reduceIte,Nat.reduceEqDiff,Nat.reduceAdd,Nat.reduceSub,Nat.reduceMul,Nat.reduceLT,Nat.reduceLeDiff,reduceCtorEq,a_eq,a_neq,a_cast0,a_pred,a_app1,a_zero,Int.reduceToNat]
  refine callP (signed_z (sgn (zb r.num != zb s.num) (r.num.natAbs * s.den)) (zb r.num != zb s.num) (r.num.natAbs * s.den) rfl) lL ?_
  simp -dsimp(disch:=first|exact om|fail)only[go_sem,↓reduceIte,Nat.reduceEqDiff,Nat.reduceAdd,Nat.reduceSub,Nat.reduceMul,Nat.reduceLT,Nat.reduceLeDiff,reduceCtorEq,a_eq,a_neq,a_cast0,a_pred,a_app1,a_zero,Int.reduceToNat]
  refine callP (times_c f g hf hg r.den s.num.natAbs (by omega) (by omega)) lL ?_
  simp -dsimp(disch:=first|exact om|fail)only[go_sem,↓reduceIte,Nat.reduceEqDiff,Nat.reduceAdd,Nat.reduceSub,Nat.reduceMul,Nat.reduceLT,Nat.reduceLeDiff,reduceCtorEq,a_eq,a_neq,a_cast0,a_pred,a_app1,a_zero,Int.reduceToNat]
  refine callP (lowest_c (sgn (zb r.num != zb s.num) (r.num.natAbs * s.den)) (r.den * s.num.natAbs) (Nat.mul_pos r.den_pos (by omega)) (by rw [sgn_natAbs]; omega) (by omega)) lL ?_
  rw [← rat_div r s hs]
  simp -dsimp(disch:=first|exact om|fail)only[go_sem,↓reduceIte,Nat.reduceEqDiff,Nat.reduceAdd,Nat.reduceSub,Nat.reduceMul,Nat.reduceLT,Nat.reduceLeDiff,reduceCtorEq,a_eq,a_neq,a_cast0,a_pred,a_app1,a_zero,Int.reduceToNat]
theorem div_c (f g : Fl) (hf : f ≠ .u) (hg : g ≠ .u) (x y : FQ) : PC PP F_impl_div [pQ f x, pQ g y] (pQ .s (x.div y)) [] := by
  obtain ⟨x, hx⟩ := x
  obtain ⟨y, hy⟩ := y
  cases x with
  | none =>
    show PC PP F_impl_div [.lit (.pointer none), pQ g ⟨y, hy⟩] (.lit (.pointer none)) []
    refine tx W_impl_div ke_impl_div [] (by kernel_rfl) ?_
    simp -dsimp(disch:=first|exact om|fail)only[go_sem,↓reduceIte,Nat.reduceEqDiff,Nat.reduceAdd,Nat.reduceSub,Nat.reduceMul,Nat.reduceLT,Nat.reduceLeDiff,reduceCtorEq,a_eq,a_neq,a_cast0,a_pred,a_app1,a_zero,Int.reduceToNat]
  | some r =>
    cases y with
    | none =>
      show PC PP F_impl_div [pR f r, .lit (.pointer none)] (.lit (.pointer none)) []
      refine tx W_impl_div ke_impl_div [] (by kernel_rfl) ?_
      simp -dsimp(disch:=first|exact om|fail)only[go_sem,↓reduceIte,Nat.reduceEqDiff,Nat.reduceAdd,Nat.reduceSub,Nat.reduceMul,Nat.reduceLT,Nat.reduceLeDiff,reduceCtorEq,a_eq,a_neq,a_cast0,a_pred,a_app1,a_zero,Int.reduceToNat]
    | some s =>
      show PC PP F_impl_div [pR f r, pR g s] (pQ .s (if s = 0 then FQ.bad else FQ.fit (r / s))) []
      have h1 := hx r rfl
      have h2 := hy s rfl
      have qs := impl_ratio_Sign_c g hg s (by omega)
      by_cases h0 : s = 0
      · rw [if_pos h0]
        rw [show s.num = 0 by rw [h0]; rfl, show sgZ 0 = 0 from rfl] at qs
        refine tx W_impl_div ke_impl_div [] (by kernel_rfl) ?_
        simp -dsimp(disch:=first|exact om|fail)only[go_sem,↓reduceIte,Nat.reduceEqDiff,Nat.reduceAdd,Nat.reduceSub,Nat.reduceMul,Nat.reduceLT,Nat.reduceLeDiff,reduceCtorEq,a_eq,a_neq,a_cast0,a_pred,a_app1,a_zero,Int.reduceToNat]
        refine callP qs lL ?_
        simp -dsimp(disch:=first|exact om|fail)only[go_sem,↓reduceIte,Nat.reduceEqDiff,Nat.reduceAdd,Nat.reduceSub,Nat.reduceMul,Nat.reduceLT,Nat.reduceLeDiff,reduceCtorEq,a_eq,a_neq,a_cast0,a_pred,a_app1,a_zero,Int.reduceToNat, pQ_bad]
      · have hn : s.num ≠ 0 := fun h => h0 (Rat.num_eq_zero.1 h)
        have hsg : sgZ s.num ≠ 0 := by unfold sgZ; rw [if_neg hn]; split <;> decide
        have m1 := lim_mul_len (a := r.num.natAbs) (d := s.den)
        have m3 := lim_mul_len (a := r.den) (d := s.num.natAbs)
        have hl : (lim (r / s).num.natAbs).length ≤ 1000000 ∧ (lim (r / s).den).length ≤ 1000000 := by
          rw [rat_div r s h0]
          obtain ⟨e1, e2⟩ := mkRat_low (zb r.num != zb s.num) (r.num.natAbs * s.den) (r.den * s.num.natAbs) (Nat.ne_of_gt (Nat.mul_pos r.den_pos (by omega)))
          rw [e1, e2, sgn_natAbs]
          have d1 := lim_div_le (r.num.natAbs * s.den) (Nat.gcd (r.num.natAbs * s.den) (r.den * s.num.natAbs))
          have d2 := lim_div_le (r.den * s.num.natAbs) (Nat.gcd (r.num.natAbs * s.den) (r.den * s.num.natAbs))
          omega
        rw [if_neg h0]
        refine tx W_impl_div ke_impl_div [] (by kernel_rfl) ?_
        simp -dsimp(disch:=first|exact om|fail)only[go_sem,↓reduceIte,Nat.reduceEqDiff,Nat.reduceAdd,Nat.reduceSub,Nat.reduceMul,Nat.reduceLT,Nat.reduceLeDiff,reduceCtorEq,a_eq,a_neq,a_cast0,a_pred,a_app1,a_zero,Int.reduceToNat]
        refine callP qs lL ?_
        simp -dsimp(disch:=first|exact om|fail)only[go_sem,↓reduceIte,Nat.reduceEqDiff,Nat.reduceAdd,Nat.reduceSub,Nat.reduceMul,Nat.reduceLT,Nat.reduceLeDiff,reduceCtorEq,a_eq,a_neq,a_cast0,a_pred,a_app1,a_zero,Int.reduceToNat, hsg]
        refine callP (impl_ratio_by_c f g hf hg r s h0 (by omega) (by omega) (by omega) (by omega)) lL ?_
        simp -dsimp(disch:=first|exact om|fail)only[go_sem,↓reduceIte,Nat.reduceEqDiff,Nat.reduceAdd,Nat.reduceSub,Nat.reduceMul,Nat.reduceLT,Nat.reduceLeDiff,reduceCtorEq,a_eq,a_neq,a_cast0,a_pred,a_app1,a_zero,Int.reduceToNat]
        refine callP (fit_c (r / s) hl.1 hl.2) lL ?_
        simp -dsimp(disch:=first|exact om|fail)only[go_sem,↓reduceIte,Nat.reduceEqDiff,Nat.reduceAdd,Nat.reduceSub,Nat.reduceMul,Nat.reduceLT,Nat.reduceLeDiff,reduceCtorEq,a_eq,a_neq,a_cast0,a_pred,a_app1,a_zero,Int.reduceToNat]
theorem signR_c (f : Fl) (hf : f ≠ .u) (x : FQ) (hx : x.good = true) : PC PP F_impl_ratio_Sign [pQ f x] (I (sgZ x.num)) [] := by
  obtain ⟨r, hr⟩ := good_some hx
  have h1 := x.num_le
  have e1 : x.num = r.num := num_of hr
  rw [e1] at h1 ⊢
  rw [show pQ f x = pR f r by unfold pQ; rw [hr]]
  exact impl_ratio_Sign_c f hf r (by omega)
end Go.Proofs.YtikmepdhpffdoaaGreat

namespace Go.Proofs.YtikmepdhpffdoaaGreat
open Go Go.RowKit
set_option maxRecDepth 100000
set_option maxHeartbeats 4000000
set_option linter.unusedVariables false
set_option linter.unusedSimpArgs false
theorem rn_row {H : List Ob} {js : List (Option Nat)} {bk : Bool} {k c : Nat} {ty : TypeId} {l : List FQ} (h : H[k]? = some ⟨.own, ty, qs .s l⟩) (hl : l.length = c) : Rn H js bk (.rsl k 1 0 c) (.sl .u 1 c (qs .s l)) [k] := by
  have e : (qs .s l).take (c * 1) = qs .s l := List.take_of_length_le (by rw [qs_length]; omega)
  refine Rn.cl js bk k 1 c ⟨.own, ty, qs .s l⟩ (qs .s l) [] h rfl (by show c * 1 ≤ (qs .s l).length; rw [qs_length]; omega) ?_
  rw [e]
  exact of_eq_true rnL_qs_s
theorem newGrid_g (n c : Nat) (hn : n ≤ 64) (hc : c ≤ 64) (g : FuncId) (fs cs : List V) (hfl : (∀ v ∈ fs, v.fl1) ∧ ∀ v ∈ cs, v.fl1) (M : Nat → Nat → FQ)
    (hat : ∀ i k : Nat, i < n → k < c → PB PP g (fs ++ [I i, I k] ++ cs) (pQ .s (M i k)) []) :
    GC PP F_impl_newGrid [I n, I c, .fn (.func g) fs cs] [] (.agg [I n, I c, .rsl 0 1 0 n]) [⟨.own, T_sl_p_impl_ratio, gC .u .s n c M⟩] := by
  have hR1 := fun H js => rnL_fl1 (H := H) (js := js) hfl.1
  have hR2 := fun H js => rnL_fl1 (H := H) (js := js) hfl.2
  have hRp := fun H js n => eq_true (RnL.same (H := H) (js := js) (bk := true) (cs := List.replicate n V.emp) rep_flat (fun h => by cases h))
  refine txg W_impl_newGrid ke_impl_newGrid 0 [] [] [] rfl (by kernel_rfl) ?_
  simp -dsimp(disch:=first|exact om|fail)only[go_sem,↓reduceIte,Nat.reduceEqDiff,Nat.reduceAdd,Nat.reduceSub,Nat.reduceMul,Nat.reduceLT,Nat.reduceLeDiff,reduceCtorEq,a_eq,a_neq,a_cast0,a_pred,a_app1,a_zero,Int.reduceToNat]
  rw [emps_flat]
  refine loopJ (fun i : Nat => i ≤ n) (fun i => ⟨[(0, I n), (1, I c), (2, .fn (.func g) fs cs), (6, .ref 0 0), (7, .ref 2 0), (17, I n), (18, I i)], [⟨.own, T_impl_grid, [I 0, I 0, .emp]⟩, ⟨.own, T_sl_p_impl_ratio, gC .u .s i c M ++ List.replicate (n - i) .emp⟩, ⟨.own, T_impl_grid, [I n, I c, .rsl 1 1 0 n]⟩]⟩) (fun i => n - i) 0 (by omega) ?_ ?_
  · refine StI.ren [some 0, some 1, some 2] [[], [], []] lE (by decide) (by simp -dsimp(disch:=first|exact om|fail)only[go_sem,↓reduceIte,Nat.reduceEqDiff,Nat.reduceAdd,Nat.reduceSub,Nat.reduceMul,Nat.reduceLT,Nat.reduceLeDiff,reduceCtorEq,a_eq,a_neq,a_cast0,a_pred,a_app1,a_zero,Int.reduceToNat, show gC .u .s 0 c M = [] from rfl, List.nil_append, hRp]) (by simp -dsimp(disch:=first|exact om|fail)only[go_sem,↓reduceIte,Nat.reduceEqDiff,Nat.reduceAdd,Nat.reduceSub,Nat.reduceMul,Nat.reduceLT,Nat.reduceLeDiff,reduceCtorEq,a_eq,a_neq,a_cast0,a_pred,a_app1,a_zero,Int.reduceToNat, hR1, hR2])
  intro i hi
  by_cases h : i < n
  · obtain ⟨j, rfl⟩ : ∃ j, n = i + 1 + j := ⟨n - i - 1, by omega⟩
    have e1 : i + 1 + j - i = j + 1 := by omega
    rw [e1, List.replicate_succ]
    have hX : (gC .u .s i c M).length = i := gC_length
    have hfX := gC_flat (f := .u) (φ := .s) (n := i) (c := c) (M := M)
    generalize hXX : gC .u .s i c M = X at *
    simp -dsimp(disch:=first|exact om|fail)only[go_sem,↓reduceIte,Nat.reduceEqDiff,Nat.reduceAdd,Nat.reduceSub,Nat.reduceMul,Nat.reduceLT,Nat.reduceLeDiff,reduceCtorEq,a_eq,a_neq,a_cast0,a_pred,a_app1,a_zero,Int.reduceToNat, preT, preD, preD1, mid_app]
    rw [qs_nil]
    refine loopJ (fun k : Nat => k ≤ c) (fun k => ⟨[(0, I (i + 1 + j : Nat)), (1, I c), (2, .fn (.func g) fs cs), (6, .ref 0 0), (7, .ref 2 0), (8, I i), (17, I (i + 1 + j : Nat)), (18, I i), (32, I c), (33, I k)], [⟨.own, T_impl_grid, [I 0, I 0, .emp]⟩, ⟨.own, T_sl_p_impl_ratio, X ++ .rsl 3 1 0 c :: List.replicate j .emp⟩, ⟨.own, T_impl_grid, [I (i + 1 + j : Nat), I c, .rsl 1 1 0 (i + 1 + j)]⟩, ⟨.own, T_p_impl_ratio, qs .s (fillQ (rowQ c (M i)) k)⟩]⟩) (fun k => c - k) 0 (by omega) ?_ ?_
    · refine StI.ren [some 0, some 1, some 2, some 3] [[], [], [], []] lE (by decide) (by simp -dsimp(disch:=first|exact om|fail)only[go_sem,↓reduceIte,Nat.reduceEqDiff,Nat.reduceAdd,Nat.reduceSub,Nat.reduceMul,Nat.reduceLT,Nat.reduceLeDiff,reduceCtorEq,a_eq,a_neq,a_cast0,a_pred,a_app1,a_zero,Int.reduceToNat]; exact ⟨rnL_mid hfX rep_flat rfl, by rw [fillQ_zero, rowQ_length]; exact of_eq_true rnL_qs_b⟩) (by simp -dsimp(disch:=first|exact om|fail)only[go_sem,↓reduceIte,Nat.reduceEqDiff,Nat.reduceAdd,Nat.reduceSub,Nat.reduceMul,Nat.reduceLT,Nat.reduceLeDiff,reduceCtorEq,a_eq,a_neq,a_cast0,a_pred,a_app1,a_zero,Int.reduceToNat, hR1, hR2])
    intro k hk
    by_cases h2 : k < c
    · have e2 : (fillQ (rowQ c (M i)) k).length = c := by simp [fillQ, rowQ]; omega
      simp -dsimp(disch:=first|exact om|fail)only[go_sem,↓reduceIte,Nat.reduceEqDiff,Nat.reduceAdd,Nat.reduceSub,Nat.reduceMul,Nat.reduceLT,Nat.reduceLeDiff,reduceCtorEq,a_eq,a_neq,a_cast0,a_pred,a_app1,a_zero,Int.reduceToNat, preT, preD, preD1]
      refine callBc (hat i k (by omega) h2) (by
        intro v hv
        simp only [List.mem_append, List.mem_cons, List.not_mem_nil, or_false] at hv
        rcases hv with (hv | rfl | rfl) | hv
        · exact fl1_fl2 (hfl.1 v hv)
        · trivial
        · trivial
        · exact fl1_fl2 (hfl.2 v hv)) (by simp) ?_
      simp -dsimp(disch:=first|exact om|fail)only[go_sem,↓reduceIte,Nat.reduceEqDiff,Nat.reduceAdd,Nat.reduceSub,Nat.reduceMul,Nat.reduceLT,Nat.reduceLeDiff,reduceCtorEq,a_eq,a_neq,a_cast0,a_pred,a_app1,a_zero,Int.reduceToNat, preT, preD, preD1, List.map_nil]
      exact ⟨k + 1, by omega, by omega, StI.ren [some 0, some 1, some 2, some 3] [[], [], [], []] lE (by decide) (by simp -dsimp(disch:=first|exact om|fail)only[go_sem,↓reduceIte,Nat.reduceEqDiff,Nat.reduceAdd,Nat.reduceSub,Nat.reduceMul,Nat.reduceLT,Nat.reduceLeDiff,reduceCtorEq,a_eq,a_neq,a_cast0,a_pred,a_app1,a_zero,Int.reduceToNat]; exact ⟨rnL_mid hfX rep_flat rfl, by rw [fillQ_set (by rw [rowQ_length]; exact h2) (rowQ_get h2).symm]; exact of_eq_true rnL_qs_b⟩) (by simp -dsimp(disch:=first|exact om|fail)only[go_sem,↓reduceIte,Nat.reduceEqDiff,Nat.reduceAdd,Nat.reduceSub,Nat.reduceMul,Nat.reduceLT,Nat.reduceLeDiff,reduceCtorEq,a_eq,a_neq,a_cast0,a_pred,a_app1,a_zero,Int.reduceToNat, hR1, hR2])⟩
    · obtain rfl : k = c := by omega
      have e3 := fillQ_full (l := rowQ k (M i))
      rw [rowQ_length] at e3
      rw [e3]
      simp -dsimp(disch:=first|exact om|fail)only[go_sem,↓reduceIte,Nat.reduceEqDiff,Nat.reduceAdd,Nat.reduceSub,Nat.reduceMul,Nat.reduceLT,Nat.reduceLeDiff,reduceCtorEq,a_eq,a_neq,a_cast0,a_pred,a_app1,a_zero,Int.reduceToNat, preT, preD, preD1]
      refine ⟨i + 1, by omega, by omega, StI.ren [some 0, some 1, some 2] [[], [3], []] lE (by decide) ?_ (by simp -dsimp(disch:=first|exact om|fail)only[go_sem,↓reduceIte,Nat.reduceEqDiff,Nat.reduceAdd,Nat.reduceSub,Nat.reduceMul,Nat.reduceLT,Nat.reduceLeDiff,reduceCtorEq,a_eq,a_neq,a_cast0,a_pred,a_app1,a_zero,Int.reduceToNat, hR1, hR2])⟩
      simp -dsimp(disch:=first|exact om|fail)only[go_sem,↓reduceIte,Nat.reduceEqDiff,Nat.reduceAdd,Nat.reduceSub,Nat.reduceMul,Nat.reduceLT,Nat.reduceLeDiff,reduceCtorEq,a_eq,a_neq,a_cast0,a_pred,a_app1,a_zero,Int.reduceToNat]
      rw [gC_succ, hXX, show i + 1 + j - (i + 1) = j by omega, mid_app]
      exact RnL.app (k1 := []) (RnL.same hfX (fun h => by cases h)) (.cons _ _ _ _ _ _ [3] [] (rn_row rfl rowQ_length) (RnL.same rep_flat (fun h => by cases h)))
  · obtain rfl : i = n := by omega
    rw [Nat.sub_self, List.replicate_zero, List.append_nil]
    simp -dsimp(disch:=first|exact om|fail)only[go_sem,↓reduceIte,Nat.reduceEqDiff,Nat.reduceAdd,Nat.reduceSub,Nat.reduceMul,Nat.reduceLT,Nat.reduceLeDiff,reduceCtorEq,a_eq,a_neq,a_cast0,a_pred,a_app1,a_zero,Int.reduceToNat]
    exact RtG.nothing [some 1] trivial (by decide) (by simp -dsimp(disch:=first|exact om|fail)only[go_sem,↓reduceIte,Nat.reduceEqDiff,Nat.reduceAdd,Nat.reduceSub,Nat.reduceMul,Nat.reduceLT,Nat.reduceLeDiff,reduceCtorEq,a_eq,a_neq,a_cast0,a_pred,a_app1,a_zero,Int.reduceToNat]; exact RnL.same gC_flat (fun _ v hv => by obtain ⟨i, rfl⟩ := gC_mem hv; trivial)) lW
end Go.Proofs.YtikmepdhpffdoaaGreat
