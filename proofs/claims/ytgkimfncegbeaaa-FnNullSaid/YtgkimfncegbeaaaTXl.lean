/- part of the proof -/
import Derived.Test.YtgkimfncegbeaaaTXk
namespace Go.Proofs.Ytgkimfncegbeaaa
open Go Go.RowKit
set_option maxRecDepth 100000
set_option maxHeartbeats 4000000
set_option linter.unusedVariables false
set_option linter.unusedSimpArgs false
theorem rn_row {H : List Ob} {js : List (Option Nat)} {bk : Bool} {k c : Nat} {ty : TypeId} {l : List FQ} (h : H[k]? = some ⟨.own, ty, qs .s l⟩) (hl : l.length = c) : Rn H js bk (.rsl k 1 0 c) (.sl .u 1 c (qs .s l)) [k] := by
  have e : (qs .s l).take (c * 1) = qs .s l := List.take_of_length_le (by rw [qs_length]; omega)
  refine Rn.cl js bk k 1 c ⟨.own, ty, qs .s l⟩ (qs .s l) [] h rfl (by show c * 1 ≤ (qs .s l).length; rw [qs_length]; omega) ?_
  rw [e]
  exact of_eq_true rnL_qs_s
theorem newGrid_g (n c : Nat) (hn : n ≤ 64) (hc : c ≤ 64) (g : FuncId) (fs cs : List V) (hfl : (∀ v ∈ fs, v.fl1) ∧ ∀ v ∈ cs, v.fl1) (M : Nat → Nat → FQ)
    (hat : ∀ i k : Nat, i < n → k < c → PB PP g (fs ++ [I i, I k] ++ cs) (pQ .s (M i k)) []) :
    GC PP F_impl_newGrid [I n, I c, .fn (.func g) fs cs] [] (.agg [I n, I c, .rsl 0 1 0 n]) [⟨.own, T_sl_p_impl_ratio, gC .u .s n c M⟩] := by
  have hR1 := fun H js => rnL_fl1 (H := H) (js := js) hfl.1
  have hR2 := fun H js => rnL_fl1 (H := H) (js := js) hfl.2
  have hRp := fun H js n => eq_true (RnL.same (H := H) (js := js) (bk := true) (cs := List.replicate n V.emp) rep_flat (fun h => by cases h))
  refine txg W_impl_newGrid ke_impl_newGrid 0 [] [] [] rfl (by kernel_rfl) ?_
  simp -dsimp(disch:=first|exact om|fail)only[go_sem,↓reduceIte,Nat.reduceEqDiff,Nat.reduceAdd,Nat.reduceSub,Nat.reduceMul,Nat.reduceLT,Nat.reduceLeDiff,reduceCtorEq,a_eq,a_neq,a_cast0,a_pred,a_app1,a_zero,Int.reduceToNat]
  rw [emps_flat]
  refine loopJ (fun i : Nat => i ≤ n) (fun i => ⟨[(0, I n), (1, I c), (2, .fn (.func g) fs cs), (6, .ref 0 0), (7, .ref 2 0), (17, I n), (18, I i)], [⟨.own, T_impl_grid, [I 0, I 0, .emp]⟩, ⟨.own, T_sl_p_impl_ratio, gC .u .s i c M ++ List.replicate (n - i) .emp⟩, ⟨.own, T_impl_grid, [I n, I c, .rsl 1 1 0 n]⟩]⟩) (fun i => n - i) 0 (by omega) ?_ ?_
  · refine StI.ren [some 0, some 1, some 2] [[], [], []] lE (by decide) (by simp -dsimp(disch:=first|exact om|fail)only[go_sem,↓reduceIte,Nat.reduceEqDiff,Nat.reduceAdd,Nat.reduceSub,Nat.reduceMul,Nat.reduceLT,Nat.reduceLeDiff,reduceCtorEq,a_eq,a_neq,a_cast0,a_pred,a_app1,a_zero,Int.reduceToNat, show gC .u .s 0 c M = [] from rfl, List.nil_append, hRp]) (by simp -dsimp(disch:=first|exact om|fail)only[go_sem,↓reduceIte,Nat.reduceEqDiff,Nat.reduceAdd,Nat.reduceSub,Nat.reduceMul,Nat.reduceLT,Nat.reduceLeDiff,reduceCtorEq,a_eq,a_neq,a_cast0,a_pred,a_app1,a_zero,Int.reduceToNat, hR1, hR2])
  intro i hi
  by_cases h : i < n
  · obtain ⟨j, rfl⟩ : ∃ j, n = i + 1 + j := ⟨n - i - 1, by omega⟩
    have e1 : i + 1 + j - i = j + 1 := by omega
    rw [e1, List.replicate_succ]
    have hX : (gC .u .s i c M).length = i := gC_length
    have hfX := gC_flat (f := .u) (φ := .s) (n := i) (c := c) (M := M)
    generalize hXX : gC .u .s i c M = X at *
    simp -dsimp(disch:=first|exact om|fail)only[go_sem,↓reduceIte,Nat.reduceEqDiff,Nat.reduceAdd,Nat.reduceSub,Nat.reduceMul,Nat.reduceLT,Nat.reduceLeDiff,reduceCtorEq,a_eq,a_neq,a_cast0,a_pred,a_app1,a_zero,Int.reduceToNat, preT, preD, preD1, mid_app]
    rw [qs_nil]
    refine loopJ (fun k : Nat => k ≤ c) (fun k => ⟨[(0, I (i + 1 + j : Nat)), (1, I c), (2, .fn (.func g) fs cs), (6, .ref 0 0), (7, .ref 2 0), (8, I i), (17, I (i + 1 + j : Nat)), (18, I i), (32, I c), (33, I k)], [⟨.own, T_impl_grid, [I 0, I 0, .emp]⟩, ⟨.own, T_sl_p_impl_ratio, X ++ .rsl 3 1 0 c :: List.replicate j .emp⟩, ⟨.own, T_impl_grid, [I (i + 1 + j : Nat), I c, .rsl 1 1 0 (i + 1 + j)]⟩, ⟨.own, T_p_impl_ratio, qs .s (fillQ (rowQ c (M i)) k)⟩]⟩) (fun k => c - k) 0 (by omega) ?_ ?_
    · refine StI.ren [some 0, some 1, some 2, some 3] [[], [], [], []] lE (by decide) (by simp -dsimp(disch:=first|exact om|fail)only[go_sem,↓reduceIte,Nat.reduceEqDiff,Nat.reduceAdd,Nat.reduceSub,Nat.reduceMul,Nat.reduceLT,Nat.reduceLeDiff,reduceCtorEq,a_eq,a_neq,a_cast0,a_pred,a_app1,a_zero,Int.reduceToNat]; exact ⟨rnL_mid hfX rep_flat rfl, by rw [fillQ_zero, rowQ_length]; exact of_eq_true rnL_qs_b⟩) (by simp -dsimp(disch:=first|exact om|fail)only[go_sem,↓reduceIte,Nat.reduceEqDiff,Nat.reduceAdd,Nat.reduceSub,Nat.reduceMul,Nat.reduceLT,Nat.reduceLeDiff,reduceCtorEq,a_eq,a_neq,a_cast0,a_pred,a_app1,a_zero,Int.reduceToNat, hR1, hR2])
    intro k hk
    by_cases h2 : k < c
    · have e2 : (fillQ (rowQ c (M i)) k).length = c := by simp [fillQ, rowQ]; omega
      simp -dsimp(disch:=first|exact om|fail)only[go_sem,↓reduceIte,Nat.reduceEqDiff,Nat.reduceAdd,Nat.reduceSub,Nat.reduceMul,Nat.reduceLT,Nat.reduceLeDiff,reduceCtorEq,a_eq,a_neq,a_cast0,a_pred,a_app1,a_zero,Int.reduceToNat, preT, preD, preD1]
      refine callBc (hat i k (by omega) h2) (by
        intro v hv
        simp only [List.mem_append, List.mem_cons, List.not_mem_nil, or_false] at hv
        rcases hv with (hv | rfl | rfl) | hv
        · exact fl1_fl2 (hfl.1 v hv)
        · trivial
        · trivial
        · exact fl1_fl2 (hfl.2 v hv)) (by simp) ?_
      simp -dsimp(disch:=first|exact om|fail)only[go_sem,↓reduceIte,Nat.reduceEqDiff,Nat.reduceAdd,Nat.reduceSub,Nat.reduceMul,Nat.reduceLT,Nat.reduceLeDiff,reduceCtorEq,a_eq,a_neq,a_cast0,a_pred,a_app1,a_zero,Int.reduceToNat, preT, preD, preD1, List.map_nil]
      exact ⟨k + 1, by omega, by omega, StI.ren [some 0, some 1, some 2, some 3] [[], [], [], []] lE (by decide) (by simp -dsimp(disch:=first|exact om|fail)only[go_sem,↓reduceIte,Nat.reduceEqDiff,Nat.reduceAdd,Nat.reduceSub,Nat.reduceMul,Nat.reduceLT,Nat.reduceLeDiff,reduceCtorEq,a_eq,a_neq,a_cast0,a_pred,a_app1,a_zero,Int.reduceToNat]; exact ⟨rnL_mid hfX rep_flat rfl, by rw [fillQ_set (by rw [rowQ_length]; exact h2) (rowQ_get h2).symm]; exact of_eq_true rnL_qs_b⟩) (by simp -dsimp(disch:=first|exact om|fail)only[go_sem,↓reduceIte,Nat.reduceEqDiff,Nat.reduceAdd,Nat.reduceSub,Nat.reduceMul,Nat.reduceLT,Nat.reduceLeDiff,reduceCtorEq,a_eq,a_neq,a_cast0,a_pred,a_app1,a_zero,Int.reduceToNat, hR1, hR2])⟩
    · obtain rfl : k = c := by omega
      have e3 := fillQ_full (l := rowQ k (M i))
      rw [rowQ_length] at e3
      rw [e3]
      simp -dsimp(disch:=first|exact om|fail)only[go_sem,↓reduceIte,Nat.reduceEqDiff,Nat.reduceAdd,Nat.reduceSub,Nat.reduceMul,Nat.reduceLT,Nat.reduceLeDiff,reduceCtorEq,a_eq,a_neq,a_cast0,a_pred,a_app1,a_zero,Int.reduceToNat, preT, preD, preD1]
      refine ⟨i + 1, by omega, by omega, StI.ren [some 0, some 1, some 2] [[], [3], []] lE (by decide) ?_ (by simp -dsimp(disch:=first|exact om|fail)only[go_sem,↓reduceIte,Nat.reduceEqDiff,Nat.reduceAdd,Nat.reduceSub,Nat.reduceMul,Nat.reduceLT,Nat.reduceLeDiff,reduceCtorEq,a_eq,a_neq,a_cast0,a_pred,a_app1,a_zero,Int.reduceToNat, hR1, hR2])⟩
      simp -dsimp(disch:=first|exact om|fail)only[go_sem,↓reduceIte,Nat.reduceEqDiff,Nat.reduceAdd,Nat.reduceSub,Nat.reduceMul,Nat.reduceLT,Nat.reduceLeDiff,reduceCtorEq,a_eq,a_neq,a_cast0,a_pred,a_app1,a_zero,Int.reduceToNat]
      rw [gC_succ, hXX, show i + 1 + j - (i + 1) = j by omega, mid_app]
      exact RnL.app (k1 := []) (RnL.same hfX (fun h => by cases h)) (.cons _ _ _ _ _ _ [3] [] (rn_row rfl rowQ_length) (RnL.same rep_flat (fun h => by cases h)))
  · obtain rfl : i = n := by omega
    rw [Nat.sub_self, List.replicate_zero, List.append_nil]
    simp -dsimp(disch:=first|exact om|fail)only[go_sem,↓reduceIte,Nat.reduceEqDiff,Nat.reduceAdd,Nat.reduceSub,Nat.reduceMul,Nat.reduceLT,Nat.reduceLeDiff,reduceCtorEq,a_eq,a_neq,a_cast0,a_pred,a_app1,a_zero,Int.reduceToNat]
    exact RtG.nothing [some 1] trivial (by decide) (by simp -dsimp(disch:=first|exact om|fail)only[go_sem,↓reduceIte,Nat.reduceEqDiff,Nat.reduceAdd,Nat.reduceSub,Nat.reduceMul,Nat.reduceLT,Nat.reduceLeDiff,reduceCtorEq,a_eq,a_neq,a_cast0,a_pred,a_app1,a_zero,Int.reduceToNat]; exact RnL.same gC_flat (fun _ v hv => by obtain ⟨i, rfl⟩ := gC_mem hv; trivial)) lW
end Go.Proofs.Ytgkimfncegbeaaa
