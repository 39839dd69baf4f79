/- part of the proof -/
import Derived.Test.YtikmepdhpffdoaaGreatTXd
namespace Go.Proofs.YtikmepdhpffdoaaGreat
open Go Go.RowKit
set_option maxRecDepth 100000
set_option maxHeartbeats 4000000
set_option linter.unusedVariables false
set_option linter.unusedSimpArgs false
theorem open_any (m : MD) (f : Fl) (hf : f ≠ .u) (hs : smallL m.cells) : ∃ r c M, PB PP F_impl_Matrix_open [mtV f m] (.tup [gV .b r c M, Bo m.ok]) [] ∧ (m.ok = true → r ≤ 24 ∧ c ≤ 24 ∧ m.Good r c ∧ M = m.at c) ∧ (m.ok = false → r = 0 ∧ c = 0) := by
  cases ho : m.ok
  · exact ⟨0, 0, fun _ _ => FQ.bad, open_no m f hf ho hs, fun h => absurd h (by decide), fun _ => ⟨rfl, rfl⟩⟩
  · obtain ⟨r, c, hg⟩ := MD.ok_good ho
    exact ⟨r, c, m.at c, open_ok m f hf r c hg hs, fun _ => ⟨hg.r24, hg.c24, hg, rfl⟩, fun h => absurd h (by decide)⟩
theorem column_b (r c : Nat) (hr : r ≤ 24) (hc : c ≤ 24) (M : Nat → Nat → FQ) (k : Nat) (hk : k < c) : PB PP F_impl_grid_column [gV .b r c M, I k] (.rsl 0 1 0 r) [⟨.own, T_p_impl_ratio, qs .b (rowQ r fun i => M i k)⟩] := by
  have hlo : (rowQ r fun i => M i k).length = r := rowQ_length
  have hoi : ∀ i, i < r → (rowQ r fun i => M i k).getD i FQ.bad = M i k := fun i hi => rowQ_get hi
  generalize (rowQ r fun i => M i k) = o at *
  refine txb W_impl_grid_column ke_impl_grid_column [] [] [] (by kernel_rfl) ?_
  simp -dsimp(disch:=first|exact om|fail)only[go_sem,↓reduceIte,Nat.reduceEqDiff,Nat.reduceAdd,Nat.reduceSub,Nat.reduceMul,Nat.reduceLT,Nat.reduceLeDiff,reduceCtorEq,a_eq,a_neq,a_cast0,a_pred,a_app1,a_zero,Int.reduceToNat]
  rw [qs_nil (f := .b)]
  refine loopJ (fun i : Nat => i ≤ r) (fun i => ⟨[(1, I k), (2, .ref 0 0), (5, .rsl 1 1 0 r), (11, I r), (12, I i)], [⟨.own, T_impl_grid, [I r, I c, .sl .b 1 r (gC .b .b r c M)]⟩, ⟨.own, T_p_impl_ratio, qs .b (fillQ o i)⟩]⟩) (fun i => r - i) 0 (by omega) ?_ ?_
  · refine StI.ren [some 0, some 1] [[], []] lE (by decide) ?_ lW
    rw [fillQ_zero, hlo]
    simp -dsimp(disch:=first|exact om|fail)only[go_sem,↓reduceIte,Nat.reduceEqDiff,Nat.reduceAdd,Nat.reduceSub,Nat.reduceMul,Nat.reduceLT,Nat.reduceLeDiff,reduceCtorEq,a_eq,a_neq,a_cast0,a_pred,a_app1,a_zero,Int.reduceToNat]
  intro i hi
  by_cases h : i < r
  · have e2 : (fillQ o i).length = r := by simp [fillQ]; omega
    simp -dsimp(disch:=first|exact om|fail)only[go_sem,↓reduceIte,Nat.reduceEqDiff,Nat.reduceAdd,Nat.reduceSub,Nat.reduceMul,Nat.reduceLT,Nat.reduceLeDiff,reduceCtorEq,a_eq,a_neq,a_cast0,a_pred,a_app1,a_zero,Int.reduceToNat]
    refine ⟨i + 1, by omega, by omega, StI.ren [some 0, some 1] [[], []] lE (by decide) ?_ lW⟩
    rw [← hoi i h, fillQ_set (by omega) rfl]
    simp -dsimp(disch:=first|exact om|fail)only[go_sem,↓reduceIte,Nat.reduceEqDiff,Nat.reduceAdd,Nat.reduceSub,Nat.reduceMul,Nat.reduceLT,Nat.reduceLeDiff,reduceCtorEq,a_eq,a_neq,a_cast0,a_pred,a_app1,a_zero,Int.reduceToNat]
  · obtain rfl : i = r := by omega
    have e1 := fillQ_full (l := o)
    rw [hlo] at e1
    rw [e1]
    simp -dsimp(disch:=first|exact om|fail)only[go_sem,↓reduceIte,Nat.reduceEqDiff,Nat.reduceAdd,Nat.reduceSub,Nat.reduceMul,Nat.reduceLT,Nat.reduceLeDiff,reduceCtorEq,a_eq,a_neq,a_cast0,a_pred,a_app1,a_zero,Int.reduceToNat]
    exact RtB.nothing [some 1] (by decide) lW lW
end Go.Proofs.YtikmepdhpffdoaaGreat
