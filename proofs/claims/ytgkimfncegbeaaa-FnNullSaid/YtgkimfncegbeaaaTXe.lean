/- part of the proof -/
import Derived.Test.YtgkimfncegbeaaaTXd
namespace Go.Proofs.Ytgkimfncegbeaaa
open Go Go.RowKit
set_option maxRecDepth 100000
set_option maxHeartbeats 4000000
set_option linter.unusedVariables false
set_option linter.unusedSimpArgs false
theorem open_any (m : MD) (f : Fl) (hf : f ≠ .u) (hs : smallL m.cells) : ∃ r c M, PB PP F_impl_Matrix_open [mtV f m] (.tup [gV .b r c M, Bo m.ok]) [] ∧ (m.ok = true → r ≤ 24 ∧ c ≤ 24 ∧ m.Good r c ∧ M = m.at c) ∧ (m.ok = false → r = 0 ∧ c = 0) := by
  cases ho : m.ok
  · exact ⟨0, 0, fun _ _ => FQ.bad, open_no m f hf ho hs, fun h => absurd h (by decide), fun _ => ⟨rfl, rfl⟩⟩
  · obtain ⟨r, c, hg⟩ := MD.ok_good ho
    exact ⟨r, c, m.at c, open_ok m f hf r c hg hs, fun _ => ⟨hg.r24, hg.c24, hg, rfl⟩, fun h => absurd h (by decide)⟩
theorem applied_g (r c : Nat) (hr : r ≤ 24) (hc : c ≤ 24) (M : Nat → Nat → FQ) (f g : Fl) (hf : f ≠ .u) (hg : g ≠ .u) (x : List FQ) (hx : x.length = c) :
    GC PP F_impl_grid_applied [gV .b r c M, sQ f g x] [] (.rsl 0 1 0 r) [⟨.own, T_p_impl_ratio, qs .s (rowQ r fun i => sumQ (fun t => (M i t).mul (x.getD t FQ.bad)) c)⟩] := by
  have hq : ∀ i, PC PP F_impl_inner [sQ .b .b (rowQ c (M i)), sQ f g x] (pQ .s (sumQ (fun t => (M i t).mul (x.getD t FQ.bad)) c)) [] := by
    intro i
    have q := inner_c .b f .b g flb hf flb hg (rowQ c (M i)) x (by rw [rowQ_length, hx]) (by rw [rowQ_length]; omega)
    rwa [rowQ_length, sumQ_congr (h := fun t => (M i t).mul (x.getD t FQ.bad)) (fun t ht => by rw [rowQ_get ht])] at q
  have hlo : (rowQ r fun i => sumQ (fun t => (M i t).mul (x.getD t FQ.bad)) c).length = r := rowQ_length
  have hoi : ∀ i, i < r → (rowQ r fun i => sumQ (fun t => (M i t).mul (x.getD t FQ.bad)) c).getD i FQ.bad = sumQ (fun t => (M i t).mul (x.getD t FQ.bad)) c := fun i hi => rowQ_get hi
  generalize (rowQ r fun i => sumQ (fun t => (M i t).mul (x.getD t FQ.bad)) c) = o at *
  refine txg W_impl_grid_applied ke_impl_grid_applied 0 [] [] [] rfl (by kernel_rfl) ?_
  simp -dsimp(disch:=first|exact om|fail)only[go_sem,↓reduceIte,Nat.reduceEqDiff,Nat.reduceAdd,Nat.reduceSub,Nat.reduceMul,Nat.reduceLT,Nat.reduceLeDiff,reduceCtorEq,a_eq,a_neq,a_cast0,a_pred,a_app1,a_zero,Int.reduceToNat]
  rw [qs_nil (f := .s)]
  refine loopJ (fun i : Nat => i ≤ r) (fun i => ⟨[(1, sQ f g x), (2, .ref 0 0), (5, .rsl 1 1 0 r), (11, I r), (12, I i)], [⟨.own, T_impl_grid, [I r, I c, .sl .b 1 r (gC .b .b r c M)]⟩, ⟨.own, T_p_impl_ratio, qs .s (fillQ o i)⟩]⟩) (fun i => r - i) 0 (by omega) ?_ ?_
  · refine StI.ren [some 0, some 1] [[], []] lE (by decide) ?_ lW
    rw [fillQ_zero, hlo]
    simp -dsimp(disch:=first|exact om|fail)only[go_sem,↓reduceIte,Nat.reduceEqDiff,Nat.reduceAdd,Nat.reduceSub,Nat.reduceMul,Nat.reduceLT,Nat.reduceLeDiff,reduceCtorEq,a_eq,a_neq,a_cast0,a_pred,a_app1,a_zero,Int.reduceToNat]
  intro i hi
  by_cases h : i < r
  · have e2 : (fillQ o i).length = r := by simp [fillQ]; omega
    simp -dsimp(disch:=first|exact om|fail)only[go_sem,↓reduceIte,Nat.reduceEqDiff,Nat.reduceAdd,Nat.reduceSub,Nat.reduceMul,Nat.reduceLT,Nat.reduceLeDiff,reduceCtorEq,a_eq,a_neq,a_cast0,a_pred,a_app1,a_zero,Int.reduceToNat]
    refine callP (hq i) lW ?_
    rw [← hoi i h]
    simp -dsimp(disch:=first|exact om|fail)only[go_sem,↓reduceIte,Nat.reduceEqDiff,Nat.reduceAdd,Nat.reduceSub,Nat.reduceMul,Nat.reduceLT,Nat.reduceLeDiff,reduceCtorEq,a_eq,a_neq,a_cast0,a_pred,a_app1,a_zero,Int.reduceToNat]
    refine ⟨i + 1, by omega, by omega, StI.ren [some 0, some 1] [[], []] lE (by decide) ?_ lW⟩
    rw [fillQ_set (by omega) rfl]
    simp -dsimp(disch:=first|exact om|fail)only[go_sem,↓reduceIte,Nat.reduceEqDiff,Nat.reduceAdd,Nat.reduceSub,Nat.reduceMul,Nat.reduceLT,Nat.reduceLeDiff,reduceCtorEq,a_eq,a_neq,a_cast0,a_pred,a_app1,a_zero,Int.reduceToNat]
  · obtain rfl : i = r := by omega
    have e1 := fillQ_full (l := o)
    rw [hlo] at e1
    rw [e1]
    simp -dsimp(disch:=first|exact om|fail)only[go_sem,↓reduceIte,Nat.reduceEqDiff,Nat.reduceAdd,Nat.reduceSub,Nat.reduceMul,Nat.reduceLT,Nat.reduceLeDiff,reduceCtorEq,a_eq,a_neq,a_cast0,a_pred,a_app1,a_zero,Int.reduceToNat]
    exact RtG.nothing [some 1] lE (by decide) (by simp -dsimp(disch:=first|exact om|fail)only[go_sem,↓reduceIte,Nat.reduceEqDiff,Nat.reduceAdd,Nat.reduceSub,Nat.reduceMul,Nat.reduceLT,Nat.reduceLeDiff,reduceCtorEq,a_eq,a_neq,a_cast0,a_pred,a_app1,a_zero,Int.reduceToNat, List.map_cons, List.map_nil]) lW
end Go.Proofs.Ytgkimfncegbeaaa
