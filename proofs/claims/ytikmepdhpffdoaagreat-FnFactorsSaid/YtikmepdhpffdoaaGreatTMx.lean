/- part of the proof -/
import Derived.Test.YtikmepdhpffdoaaGreatTLc0
import Derived.Test.YtikmepdhpffdoaaGreatTIs
import Derived.Test.YtikmepdhpffdoaaGreatTMl
import Derived.Test.YtikmepdhpffdoaaGreatTRm
namespace Go.Proofs.YtikmepdhpffdoaaGreat
open Go Go.RowKit
set_option maxRecDepth 100000
set_option maxHeartbeats 4000000
set_option linter.unusedVariables false
set_option linter.unusedSimpArgs false
def or2_spec_MakeSymmetric : List (Nat × (List Nat × List Nat × List Nat)) := [(3, [0, 2, 1, 3, 4, 5], [5], []), (7, [0, 1, 2, 3, 4, 5, 6, 7, 8, 9, 10, 11, 12, 13, 14, 15, 16, 17, 18, 19, 20], [], [1000019, 1000025, 1000031, 999999])]
theorem W2_spec_MakeSymmetric : Txt PP F_spec_MakeSymmetric Tryz.f27 co_spec_MakeSymmetric or2_spec_MakeSymmetric := ⟨en_spec_MakeSymmetric, Tryz.func27, rfl, by kernel_rfl, by kernel_rfl⟩
attribute [go_sem] or2_spec_MakeSymmetric
noncomputable def symD (l : List Int) (c : CS) (N : Nat → Nat → FQ) : Nat → Nat → Nat → FQ
  | 0 => N
  | k + 1 => upd2 (symD l c N k) k k ((symD l c N k k k).add (lowQ (1 + (c.adv l k).to l 4) 2))
noncomputable def symM0 (l : List Int) : Nat → Nat → FQ := fun i j => sumQ (fun t => (drawM l 0 3 3 t i).mul (drawM l 0 3 3 t j)) 3
noncomputable def symG (l : List Int) (k : Nat) : Nat → Nat → FQ := symD l (nC l (CS.new l) 9) (symM0 l) k
theorem MakeSymmetric_s (l : List Int) (hl : l.length ≤ 1048576) : PC PP F_spec_MakeSymmetric [byV .s l] (.agg [I 3, I 3, .sl .s 3 9 (rsC .s ((gridL 3 3 (symG l 3)).map qd))]) [] := by
  have q := l06Draw_s l (CS.new l) hl (CS.new_ok l) 3 3 (by omega) (by omega)
  have eg : rowQ (3 * 3) (nX l (CS.new l)) = gridL 3 3 (drawM l 0 3 3) := draw_grid (n := 0)
  rw [eg] at q
  obtain ⟨a, ha⟩ : ∃ m : MD, m = ⟨3, 3, (gridL 3 3 (drawM l 0 3 3)).map qd⟩ := ⟨_, rfl⟩
  have em : mtV .s a = .agg [I 3, I 3, .sl .s 3 9 (rsC .s ((gridL 3 3 (drawM l 0 3 3)).map qd))] := by rw [ha]; exact mt_grid (n := 3) (c := 3)
  replace q : GC PP F_spec_l06Draw [.ref 0 0, I 3, I 3] [curS l (CS.new l)] (mtV .s a) [curS l (nC l (CS.new l) 9)] := by rw [em]; exact q
  have ga : a.Good 3 3 := by rw [ha]; exact grid_good (n := 3) (c := 3) (by omega) (by omega) fun i j hi hj => (nX_val l _ _).good
  have has : smallL a.cells := by rw [ha]; exact grid_small (by omega) (by omega)
  have hat : ∀ i j, i < 3 → j < 3 → a.at 3 i j = drawM l 0 3 3 i j := fun i j hi hj => by rw [ha]; exact grid_at (n := 3) (c := 3) hi hj
  have qt := l06Transpose_c a .s fls 3 3 ga has
  rw [← trM_ok (good_ok ga) ga] at qt
  have gt : (trM a).Good 3 3 := by rw [tr_grid ga]; exact grid_good (n := 3) (c := 3) (by omega) (by omega) fun i j hi hj => (MD.at_ok ga hj hi).1
  have qm := l06Multiply_g (trM a) a .s .s fls fls 3 3 3 gt ga has
  have e0 : gridR 3 3 (fun i j => qd (sumQ (fun t => ((trM a).at 3 i t).mul (a.at 3 t j)) 3)) = (gridL 3 3 (symG l 0)).map qd := by
    rw [← gridL_qd (M := fun i j => sumQ (fun t => ((trM a).at 3 i t).mul (a.at 3 t j)) 3) (fun i j _ _ => rfl)]
    refine congrArg _ (gridL_congr fun i j hi hj => ?_)
    have ht : ∀ t, t < 3 → (trM a).at 3 i t = drawM l 0 3 3 t i := fun t h => by
      rw [tr_grid ga, ← hat t i h hi]; exact grid_at (n := 3) (c := 3) hi h
    show FQ.add (FQ.add (FQ.add _ _) _) _ = FQ.add (FQ.add (FQ.add _ _) _) _
    dsimp only
    rw [ht 0 (by omega), ht 1 (by omega), ht 2 (by omega), hat 0 j (by omega) hj, hat 1 j (by omega) hj, hat 2 j (by omega) hj]
    rfl
  rw [e0] at qm
  generalize trM a = ta at *
  clear em eg e0 hat ha gt
  have hcs : ∀ k, ((nC l (CS.new l) 9).adv l k).Ok l := fun k => (CS.new_ok l).nC.adv
  have hG : ∀ k, symG l (k + 1) = upd2 (symG l k) k k ((symG l k k k).add (lowQ (1 + ((nC l (CS.new l) 9).adv l k).to l 4) 2)) := fun k => rfl
  generalize symG l = G at *
  generalize nC l (CS.new l) 9 = c0 at *
  refine txe W2_spec_MakeSymmetric ke_spec_MakeSymmetric [] [] [2] (by kernel_rfl) ?_
  simp -dsimp(disch:=first|exact om|fail)only[go_sem,↓reduceIte,Nat.reduceEqDiff,Nat.reduceAdd,Nat.reduceSub,Nat.reduceMul,Nat.reduceLT,Nat.reduceLeDiff,reduceCtorEq,a_eq,a_neq,a_cast0,a_pred,a_app1,a_zero,Int.reduceToNat]
  refine callO' (l01New_s l hl) lL lF ?_
  simp -dsimp(disch:=first|exact om|fail)only[go_sem,↓reduceIte,Nat.reduceEqDiff,Nat.reduceAdd,Nat.reduceSub,Nat.reduceMul,Nat.reduceLT,Nat.reduceLeDiff,reduceCtorEq,a_eq,a_neq,a_cast0,a_pred,a_app1,a_zero,Int.reduceToNat]
  refine callG' [1] q (by decide) lL lL lE lF ?_
  simp -dsimp(disch:=first|exact om|fail)only[go_sem,↓reduceIte,Nat.reduceEqDiff,Nat.reduceAdd,Nat.reduceSub,Nat.reduceMul,Nat.reduceLT,Nat.reduceLeDiff,reduceCtorEq,a_eq,a_neq,a_cast0,a_pred,a_app1,a_zero,Int.reduceToNat]
  refine callP qt lL ?_
  simp -dsimp(disch:=first|exact om|fail)only[go_sem,↓reduceIte,Nat.reduceEqDiff,Nat.reduceAdd,Nat.reduceSub,Nat.reduceMul,Nat.reduceLT,Nat.reduceLeDiff,reduceCtorEq,a_eq,a_neq,a_cast0,a_pred,a_app1,a_zero,Int.reduceToNat]
  refine callO' qm lL lF ?_
  simp -dsimp(disch:=first|exact om|fail)only[go_sem,↓reduceIte,Nat.reduceEqDiff,Nat.reduceAdd,Nat.reduceSub,Nat.reduceMul,Nat.reduceLT,Nat.reduceLeDiff,reduceCtorEq,a_eq,a_neq,a_cast0,a_pred,a_app1,a_zero,Int.reduceToNat]
  refine loopJ (fun k : Nat => k ≤ 3) (fun k => ⟨[(2, .ref 0 0), (3, .ref 1 0), (5, .ref 2 0), (6, I k)], [⟨.own, T_impl_Matrix, [I 0, I 0, .emp]⟩, curS l (c0.adv l k), ⟨.own, T_impl_Matrix, [I 3, I 3, .rsl 3 3 0 9]⟩, ⟨.own, T_impl_Rat, rsC .s ((gridL 3 3 (G k)).map qd)⟩]⟩) (fun k => 3 - k) 0 (by omega) ?_ ?_
  · refine StI.ren [some 0, some 1, some 4, some 5] [[], [], [], []] lE (by decide) ?_ lW
    simp -dsimp(disch:=first|exact om|fail)only[go_sem,↓reduceIte,Nat.reduceEqDiff,Nat.reduceAdd,Nat.reduceSub,Nat.reduceMul,Nat.reduceLT,Nat.reduceLeDiff,reduceCtorEq,a_eq,a_neq,a_cast0,a_pred,a_app1,a_zero,Int.reduceToNat]
    exact ⟨rfl, rfl⟩
  intro k hk
  by_cases h : k < 3
  · have qb := l01Below_s l (c0.adv l k) hl (hcs k) 4 (by omega)
    have b := CS.to_le (l := l) (c := c0.adv l k) (n := 4) (by omega)
    have hG' := hG k
    rw [show (c0.adv l k).nx l = c0.adv l (k + 1) from rfl] at qb
    generalize (c0.adv l k).to l 4 = x at *
    have qr := RatOf_s (1 + x) 2 (by omega) (by omega)
    replace qr : PC PP F_spec_RatOf [I (1 + x), I 2] (rV .s (qd (lowQ (1 + x) 2))) [] := qr
    have qa := l04Add_c .s .s fls fls (G k k k) (lowQ (1 + x) 2)
    have hlen : ((gridL 3 3 (G k)).map qd).length = 9 := by rw [List.length_map, gridL_length]
    have hget : ((gridL 3 3 (G k)).map qd).getD (k * 3 + k) RD.zero = qd (G k k k) := by rw [← gcs_get h h]
    have hset := gcs_set (N := G k) (x := (G k k k).add (lowQ (1 + x) 2)) h h
    rw [← hG'] at hset
    have e1 : (k : Int) * 3 + (k : Int) = ((k * 3 + k : Nat) : Int) := by omega
    have hp : k * 3 + k < 9 := by omega
    generalize hL' : (gridL 3 3 (G (k + 1))).map qd = L' at *
    generalize (gridL 3 3 (G k)).map qd = L at *
    generalize hpe : k * 3 + k = p at *
    simp -dsimp(disch:=first|exact om|fail)only[go_sem,↓reduceIte,Nat.reduceEqDiff,Nat.reduceAdd,Nat.reduceSub,Nat.reduceMul,Nat.reduceLT,Nat.reduceLeDiff,reduceCtorEq,a_eq,a_neq,a_cast0,a_pred,a_app1,a_zero,Int.reduceToNat, e1]
    refine callGL [1] qb rfl (by decide) lW lW lE lF lW ?_
    simp -dsimp(disch:=first|exact om|fail)only[go_sem,↓reduceIte,Nat.reduceEqDiff,Nat.reduceAdd,Nat.reduceSub,Nat.reduceMul,Nat.reduceLT,Nat.reduceLeDiff,reduceCtorEq,a_eq,a_neq,a_cast0,a_pred,a_app1,a_zero,Int.reduceToNat]
    refine mtL ?_
    simp -dsimp(disch:=first|exact om|fail)only[go_sem,↓reduceIte,Nat.reduceEqDiff,Nat.reduceAdd,Nat.reduceSub,Nat.reduceMul,Nat.reduceLT,Nat.reduceLeDiff,reduceCtorEq,a_eq,a_neq,a_cast0,a_pred,a_app1,a_zero,Int.reduceToNat]
    refine callP qr lL ?_
    simp -dsimp(disch:=first|exact om|fail)only[go_sem,↓reduceIte,Nat.reduceEqDiff,Nat.reduceAdd,Nat.reduceSub,Nat.reduceMul,Nat.reduceLT,Nat.reduceLeDiff,reduceCtorEq,a_eq,a_neq,a_cast0,a_pred,a_app1,a_zero,Int.reduceToNat]
    refine mtL ?_
    simp -dsimp(disch:=first|exact om|fail)only[go_sem,↓reduceIte,Nat.reduceEqDiff,Nat.reduceAdd,Nat.reduceSub,Nat.reduceMul,Nat.reduceLT,Nat.reduceLeDiff,reduceCtorEq,a_eq,a_neq,a_cast0,a_pred,a_app1,a_zero,Int.reduceToNat, hget]
    refine callP qa lL ?_
    simp -dsimp(disch:=first|exact om|fail)only[go_sem,↓reduceIte,Nat.reduceEqDiff,Nat.reduceAdd,Nat.reduceSub,Nat.reduceMul,Nat.reduceLT,Nat.reduceLeDiff,reduceCtorEq,a_eq,a_neq,a_cast0,a_pred,a_app1,a_zero,Int.reduceToNat, hset]
    exact ⟨k + 1, by omega, by omega, StI.ren [some 0, some 1, some 2, some 3] [[], [], [], []] lE (by decide) (by simp -dsimp(disch:=first|exact om|fail)only[go_sem,↓reduceIte,Nat.reduceEqDiff,Nat.reduceAdd,Nat.reduceSub,Nat.reduceMul,Nat.reduceLT,Nat.reduceLeDiff,reduceCtorEq,a_eq,a_neq,a_cast0,a_pred,a_app1,a_zero,Int.reduceToNat, hL']) lW⟩
  · obtain rfl : k = 3 := by omega
    simp -dsimp(disch:=first|exact om|fail)only[go_sem,↓reduceIte,Nat.reduceEqDiff,Nat.reduceAdd,Nat.reduceSub,Nat.reduceMul,Nat.reduceLT,Nat.reduceLeDiff,reduceCtorEq,a_eq,a_neq,a_cast0,a_pred,a_app1,a_zero,Int.reduceToNat]
end Go.Proofs.YtikmepdhpffdoaaGreat
