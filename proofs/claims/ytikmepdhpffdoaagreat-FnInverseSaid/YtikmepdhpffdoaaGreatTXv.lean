/- part of the proof -/
import Derived.Test.YtikmepdhpffdoaaGreatTXs
namespace Go.Proofs.YtikmepdhpffdoaaGreat
open Go Go.RowKit
set_option maxRecDepth 100000
set_option maxHeartbeats 4000000
set_option linter.unusedVariables false
set_option linter.unusedSimpArgs false
def besM (c : Nat) (M N : Nat → Nat → FQ) : Nat → Nat → FQ := fun i k => if k < c then M i k else N i (k - c)
theorem beside1_b (n c d : Nat) (hn : n ≤ 24) (hc : c ≤ 24) (hd : d ≤ 24) (M N : Nat → Nat → FQ) (i k : Nat) (hi : i < n) (hk : k < c + d) :
    PB PP F_impl_grid_beside_1 [I i, I k, .ptr .b [I n, I c, .sl .b 1 n (gC .b .b n c M)], .ptr .b [I n, I d, .sl .b 1 n (gC .b .b n d N)]] (pQ .b (besM c M N i k)) [] := by
  refine txb W_impl_grid_beside_1 ke_impl_grid_beside_1 [] [] [] (by kernel_rfl) ?_
  unfold besM
  by_cases h : k < c
  · rw [if_pos h]
    simp -dsimp(disch:=first|exact om|fail)only[go_sem,↓reduceIte,Nat.reduceEqDiff,Nat.reduceAdd,Nat.reduceSub,Nat.reduceMul,Nat.reduceLT,Nat.reduceLeDiff,reduceCtorEq,a_eq,a_neq,a_cast0,a_pred,a_app1,a_zero,Int.reduceToNat]
    exact RtB.nothing [] (by decide) trivial lW
  · rw [if_neg h]
    have e : (k : Int) - (c : Int) = ((k - c : Nat) : Int) := by omega
    have hd' : k - c < d := by omega
    generalize hj : k - c = j at *
    simp -dsimp(disch:=first|exact om|fail)only[go_sem,↓reduceIte,Nat.reduceEqDiff,Nat.reduceAdd,Nat.reduceSub,Nat.reduceMul,Nat.reduceLT,Nat.reduceLeDiff,reduceCtorEq,a_eq,a_neq,a_cast0,a_pred,a_app1,a_zero,Int.reduceToNat, e]
    exact RtB.nothing [] (by decide) trivial lW
theorem beside_b (n c d : Nat) (hn : n ≤ 24) (hc : c ≤ 24) (hd : d ≤ 24) (M N : Nat → Nat → FQ) : PB PP F_impl_grid_beside [gV .b n c M, gV .b n d N] (gV .b n (c + d) (besM c M N)) [] := by
  refine txb W_impl_grid_beside ke_impl_grid_beside [] [1] [] (by kernel_rfl) ?_
  simp -dsimp(disch:=first|exact om|fail)only[go_sem,↓reduceIte,Nat.reduceEqDiff,Nat.reduceAdd,Nat.reduceSub,Nat.reduceMul,Nat.reduceLT,Nat.reduceLeDiff,reduceCtorEq,a_eq,a_neq,a_cast0,a_pred,a_app1,a_zero,Int.reduceToNat]
  refine ⟨⟨[(2, .ptr .b [I n, I c, .sl .b 1 n (gC .b .b n c M)]), (3, .ptr .b [I n, I d, .sl .b 1 n (gC .b .b n d N)]), (4, .ref 0 0)], [⟨.own, T_impl_grid, [I 0, I 0, .emp]⟩]⟩, ((StI.shareb 0 (cs' := [I n, I c, .sl .b 1 n (gC .b .b n c M)]) rfl lW lW lW).trans (StI.shareb 1 (cs' := [I n, I d, .sl .b 1 n (gC .b .b n d N)]) rfl lW lW lW)).trans (StI.ren [some 2] [[]] lE (by decide) lW lW), ?_⟩
  have e : (c : Int) + (d : Int) = ((c + d : Nat) : Int) := by omega
  simp -dsimp(disch:=first|exact om|fail)only[go_sem,↓reduceIte,Nat.reduceEqDiff,Nat.reduceAdd,Nat.reduceSub,Nat.reduceMul,Nat.reduceLT,Nat.reduceLeDiff,reduceCtorEq,a_eq,a_neq,a_cast0,a_pred,a_app1,a_zero,Int.reduceToNat, e]
  refine callB' (newGrid_b n (c + d) (by omega) (by omega) _ [] [.ptr .b [I n, I c, .sl .b 1 n (gC .b .b n c M)], .ptr .b [I n, I d, .sl .b 1 n (gC .b .b n d N)]] (by simp [V.fl1]) (besM c M N) .b flb (fun i k hi hk => beside1_b n c d hn hc hd M N i k hi hk)) ?_ lF ?_
  · simp [V.fl2, V.fl1]
  simp -dsimp(disch:=first|exact om|fail)only[go_sem,↓reduceIte,Nat.reduceEqDiff,Nat.reduceAdd,Nat.reduceSub,Nat.reduceMul,Nat.reduceLT,Nat.reduceLeDiff,reduceCtorEq,a_eq,a_neq,a_cast0,a_pred,a_app1,a_zero,Int.reduceToNat]
  exact RtB.nothing [] (by decide) trivial lW
def solB (n : Nat) (piv : List Int) : Bool := decide (n ≤ piv.length) && (decide (n = 0) || decide (piv.getD (n - 1) 0 = (n : Int) - 1))
noncomputable def solO (n c d : Nat) (M N : Nat → Nat → FQ) : Option (Nat → Nat → FQ) := match redTo n (c + d) (besM c M N) (c + d) with
  | some a => if solB n a.piv = true then some fun i k => a.M i (c + k) else none
  | none => none
theorem besM_good {n c d : Nat} {M N : Nat → Nat → FQ} (hM : ∀ i j, i < n → j < c → (M i j).good = true) (hN : ∀ i j, i < n → j < d → (N i j).good = true) : ∀ i j, i < n → j < c + d → (besM c M N i j).good = true := fun i j hi hj => by
  unfold besM
  split
  · exact hM i j hi (by omega)
  · exact hN i (j - c) hi (by omega)
theorem solved1_b (n c d : Nat) (hn : n ≤ 24) (hc : c ≤ 24) (hd : d ≤ 24) (A M : Nat → Nat → FQ) (p : List Int) (D : FQ) (i k : Nat) (hi : i < n) (hk : k < d) :
    PB PP F_impl_grid_solved_1 [I i, I k, .ptr .b [I n, I (c + d : Nat), .sl .b 1 n (gC .b .b n (c + d) A), sI .s p, pQ .b D], .ptr .b [I n, I c, .sl .b 1 n (gC .b .b n c M)]] (pQ .b (A i (c + k))) [] := by
  refine txb W_impl_grid_solved_1 ke_impl_grid_solved_1 [] [] [] (by kernel_rfl) ?_
  have e : (c : Int) + (k : Int) = ((c + k : Nat) : Int) := by omega
  have hd' : c + k < c + d := by omega
  generalize hj : c + k = j at *
  generalize c + d = q at *
  simp -dsimp(disch:=first|exact om|fail)only[go_sem,↓reduceIte,Nat.reduceEqDiff,Nat.reduceAdd,Nat.reduceSub,Nat.reduceMul,Nat.reduceLT,Nat.reduceLeDiff,reduceCtorEq,a_eq,a_neq,a_cast0,a_pred,a_app1,a_zero,Int.reduceToNat, e]
  exact RtB.nothing [] (by decide) trivial lW
theorem sol_st {x0 x1 x5 x7 x42 : V} (n c d : Nat) (A M N : Nat → Nat → FQ) (p : List Int) (D : FQ) :
    StI 0 ⟨[(0, x0), (1, x1), (2, .ref 0 0), (3, .ref 1 0), (4, .ref 2 0), (5, x5), (6, .ref 4 0), (7, x7), (42, x42)], [⟨.own, T_impl_grid, [I n, I c, .sl .b 1 n (gC .b .b n c M)]⟩, ⟨.own, T_impl_grid, [I n, I d, .sl .b 1 n (gC .b .b n d N)]⟩, ⟨.own, T_impl_grid, [I 0, I 0, .emp]⟩, ⟨.own, T_int, iC p⟩, ⟨.own, T_impl_reduced, [I n, I (c + d : Nat), .sl .b 1 n (gC .b .b n (c + d) A), .rsl 3 1 0 p.length, pQ .b D]⟩]⟩
      ⟨[(2, .ptr .b [I n, I c, .sl .b 1 n (gC .b .b n c M)]), (3, .ptr .b [I n, I d, .sl .b 1 n (gC .b .b n d N)]), (4, .ref 0 0), (6, .ptr .b [I n, I (c + d : Nat), .sl .b 1 n (gC .b .b n (c + d) A), sI .s p, pQ .b D])], [⟨.own, T_impl_grid, [I 0, I 0, .emp]⟩]⟩ := by
  have h1 : StI 0 ⟨[(0, x0), (1, x1), (2, .ref 0 0), (3, .ref 1 0), (4, .ref 2 0), (5, x5), (6, .ref 4 0), (7, x7), (42, x42)], [⟨.own, T_impl_grid, [I n, I c, .sl .b 1 n (gC .b .b n c M)]⟩, ⟨.own, T_impl_grid, [I n, I d, .sl .b 1 n (gC .b .b n d N)]⟩, ⟨.own, T_impl_grid, [I 0, I 0, .emp]⟩, ⟨.own, T_int, iC p⟩, ⟨.own, T_impl_reduced, [I n, I (c + d : Nat), .sl .b 1 n (gC .b .b n (c + d) A), .rsl 3 1 0 p.length, pQ .b D]⟩]⟩ _ := StI.share 3 (cs' := iC p) rfl (by simp only [flat_iC]) LeL.lits cl_iC
  have h2 : StI 0 _ ⟨[(2, .ref 0 0), (3, .ref 1 0), (4, .ref 2 0), (6, .ref 3 0)], [⟨.own, T_impl_grid, [I n, I c, .sl .b 1 n (gC .b .b n c M)]⟩, ⟨.own, T_impl_grid, [I n, I d, .sl .b 1 n (gC .b .b n d N)]⟩, ⟨.own, T_impl_grid, [I 0, I 0, .emp]⟩, ⟨.own, T_impl_reduced, [I n, I (c + d : Nat), .sl .b 1 n (gC .b .b n (c + d) A), sI .s p, pQ .b D]⟩]⟩ := h1.trans (StI.ren [some 0, some 1, some 2, some 4] [[], [], [], []] lE (by decide) lW lW)
  have h3 := h2.trans (StI.shareb 0 (cs' := [I n, I c, .sl .b 1 n (gC .b .b n c M)]) rfl lW lW lW)
  have h4 := h3.trans (StI.shareb 1 (cs' := [I n, I d, .sl .b 1 n (gC .b .b n d N)]) rfl lW lW lW)
  have h5 := h4.trans (StI.shareb 3 (cs' := [I n, I (c + d : Nat), .sl .b 1 n (gC .b .b n (c + d) A), sI .s p, pQ .b D]) rfl lW lW lW)
  exact h5.trans (StI.ren [some 2] [[]] lE (by decide) lW lW)
theorem solved_b (n c d : Nat) (hn : n ≤ 24) (hc : c ≤ 24) (hd : d ≤ 24) (M N : Nat → Nat → FQ) (hM : ∀ i j, i < n → j < c → (M i j).good = true) (hN : ∀ i j, i < n → j < d → (N i j).good = true) :
    PB PP F_impl_grid_solved [gV .b n c M, gV .b n d N] (match solO n c d M N with
      | some X => .tup [gV .b n d X, Bo true]
      | none => .tup [.agg [I 0, I 0, .emp], Bo false]) [] := by
  have q := reduce_b n (c + d) hn (by omega) (besM c M N) (besM_good hM hN)
  refine txb W_impl_grid_solved ke_impl_grid_solved [] [4] [] (by kernel_rfl) ?_
  simp -dsimp(disch:=first|exact om|fail)only[go_sem,↓reduceIte,Nat.reduceEqDiff,Nat.reduceAdd,Nat.reduceSub,Nat.reduceMul,Nat.reduceLT,Nat.reduceLeDiff,reduceCtorEq,a_eq,a_neq,a_cast0,a_pred,a_app1,a_zero,Int.reduceToNat]
  refine callB' (beside_b n c d hn hc hd M N) lB lF ?_
  simp -dsimp(disch:=first|exact om|fail)only[go_sem,↓reduceIte,Nat.reduceEqDiff,Nat.reduceAdd,Nat.reduceSub,Nat.reduceMul,Nat.reduceLT,Nat.reduceLeDiff,reduceCtorEq,a_eq,a_neq,a_cast0,a_pred,a_app1,a_zero,Int.reduceToNat]
  rcases e : redTo n (c + d) (besM c M N) (c + d) with _ | a
  · rw [e] at q
    replace q : PB PP F_impl_grid_reduce [gV .b n (c + d) (besM c M N)] (.tup [.agg [I 0, I 0, .emp, .emp, .lit (.pointer none)], Bo false]) [] := q
    rw [show solO n c d M N = none by unfold solO; rw [e]]
    refine callB' q lB lF ?_
    simp -dsimp(disch:=first|exact om|fail)only[go_sem,↓reduceIte,Nat.reduceEqDiff,Nat.reduceAdd,Nat.reduceSub,Nat.reduceMul,Nat.reduceLT,Nat.reduceLeDiff,reduceCtorEq,a_eq,a_neq,a_cast0,a_pred,a_app1,a_zero,Int.reduceToNat]
    exact RtB.nothing [] (by decide) trivial lW
  · rw [e] at q
    have hpl : a.piv.length ≤ n := (redTo_inv (besM_good hM hN) e).pl
    replace q : PB PP F_impl_grid_reduce [gV .b n (c + d) (besM c M N)] (.tup [.agg [I n, I (c + d : Nat), .sl .b 1 n (gC .b .b n (c + d) a.M), .rsl 0 1 0 a.piv.length, pQ .b a.det], Bo true]) [⟨.own, T_int, iC a.piv⟩] := q
    refine callB' q lB lF ?_
    by_cases h1 : n ≤ a.piv.length
    · by_cases h2 : n = 0
      · subst h2
        have hb : solB 0 a.piv = true := by unfold solB; simp
        rw [show solO 0 c d M N = some fun i k => a.M i (c + k) by unfold solO; rw [e]; exact if_pos hb]
        simp -dsimp(disch:=first|exact om|fail)only[go_sem,↓reduceIte,Nat.reduceEqDiff,Nat.reduceAdd,Nat.reduceSub,Nat.reduceMul,Nat.reduceLT,Nat.reduceLeDiff,reduceCtorEq,a_eq,a_neq,a_cast0,a_pred,a_app1,a_zero,Int.reduceToNat]
        refine ⟨_, sol_st 0 c d a.M M N a.piv a.det, ?_⟩
        simp -dsimp(disch:=first|exact om|fail)only[go_sem,↓reduceIte,Nat.reduceEqDiff,Nat.reduceAdd,Nat.reduceSub,Nat.reduceMul,Nat.reduceLT,Nat.reduceLeDiff,reduceCtorEq,a_eq,a_neq,a_cast0,a_pred,a_app1,a_zero,Int.reduceToNat]
        refine callB' (newGrid_b 0 d (by omega) (by omega) _ [] [.ptr .b [I 0, I (c + d : Nat), .sl .b 1 0 (gC .b .b 0 (c + d) a.M), sI .s a.piv, pQ .b a.det], .ptr .b [I 0, I c, .sl .b 1 0 (gC .b .b 0 c M)]] (by simp [V.fl1]) (fun i k => a.M i (c + k)) .b flb (fun i k hi hk => solved1_b 0 c d (by omega) hc hd a.M M a.piv a.det i k hi hk)) ?_ lF ?_
        · simp [V.fl2, V.fl1]
        simp -dsimp(disch:=first|exact om|fail)only[go_sem,↓reduceIte,Nat.reduceEqDiff,Nat.reduceAdd,Nat.reduceSub,Nat.reduceMul,Nat.reduceLT,Nat.reduceLeDiff,reduceCtorEq,a_eq,a_neq,a_cast0,a_pred,a_app1,a_zero,Int.reduceToNat]
        exact RtB.nothing [] (by decide) trivial lW
      · have e2 : ((n : Int) - 1).toNat = n - 1 := by omega
        by_cases h3 : a.piv.getD (n - 1) 0 = (n : Int) - 1
        · have hb : solB n a.piv = true := by unfold solB; rw [decide_eq_true h1, decide_eq_true h3, Bool.or_true]; rfl
          rw [show solO n c d M N = some fun i k => a.M i (c + k) by unfold solO; rw [e]; exact if_pos hb]
          simp -dsimp(disch:=first|exact om|fail)only[go_sem,↓reduceIte,Nat.reduceEqDiff,Nat.reduceAdd,Nat.reduceSub,Nat.reduceMul,Nat.reduceLT,Nat.reduceLeDiff,reduceCtorEq,a_eq,a_neq,a_cast0,a_pred,a_app1,a_zero,Int.reduceToNat, e2, h3]
          refine ⟨_, sol_st n c d a.M M N a.piv a.det, ?_⟩
          simp -dsimp(disch:=first|exact om|fail)only[go_sem,↓reduceIte,Nat.reduceEqDiff,Nat.reduceAdd,Nat.reduceSub,Nat.reduceMul,Nat.reduceLT,Nat.reduceLeDiff,reduceCtorEq,a_eq,a_neq,a_cast0,a_pred,a_app1,a_zero,Int.reduceToNat]
          refine callB' (newGrid_b n d (by omega) (by omega) _ [] [.ptr .b [I n, I (c + d : Nat), .sl .b 1 n (gC .b .b n (c + d) a.M), sI .s a.piv, pQ .b a.det], .ptr .b [I n, I c, .sl .b 1 n (gC .b .b n c M)]] (by simp [V.fl1]) (fun i k => a.M i (c + k)) .b flb (fun i k hi hk => solved1_b n c d (by omega) hc hd a.M M a.piv a.det i k hi hk)) ?_ lF ?_
          · simp [V.fl2, V.fl1]
          simp -dsimp(disch:=first|exact om|fail)only[go_sem,↓reduceIte,Nat.reduceEqDiff,Nat.reduceAdd,Nat.reduceSub,Nat.reduceMul,Nat.reduceLT,Nat.reduceLeDiff,reduceCtorEq,a_eq,a_neq,a_cast0,a_pred,a_app1,a_zero,Int.reduceToNat]
          exact RtB.nothing [] (by decide) trivial lW
        · have hb : solB n a.piv = false := by unfold solB; rw [decide_eq_false h2, decide_eq_false h3, Bool.or_false, Bool.and_false]
          rw [show solO n c d M N = none by unfold solO; rw [e]; exact if_neg (by rw [hb]; exact Bool.false_ne_true)]
          simp -dsimp(disch:=first|exact om|fail)only[go_sem,↓reduceIte,Nat.reduceEqDiff,Nat.reduceAdd,Nat.reduceSub,Nat.reduceMul,Nat.reduceLT,Nat.reduceLeDiff,reduceCtorEq,a_eq,a_neq,a_cast0,a_pred,a_app1,a_zero,Int.reduceToNat, e2, h3]
          exact RtB.nothing [] (by decide) trivial lW
    · have hb : solB n a.piv = false := by unfold solB; rw [decide_eq_false h1]; rfl
      rw [show solO n c d M N = none by unfold solO; rw [e]; exact if_neg (by rw [hb]; exact Bool.false_ne_true)]
      simp -dsimp(disch:=first|exact om|fail)only[go_sem,↓reduceIte,Nat.reduceEqDiff,Nat.reduceAdd,Nat.reduceSub,Nat.reduceMul,Nat.reduceLT,Nat.reduceLeDiff,reduceCtorEq,a_eq,a_neq,a_cast0,a_pred,a_app1,a_zero,Int.reduceToNat]
      exact RtB.nothing [] (by decide) trivial lW
end Go.Proofs.YtikmepdhpffdoaaGreat
