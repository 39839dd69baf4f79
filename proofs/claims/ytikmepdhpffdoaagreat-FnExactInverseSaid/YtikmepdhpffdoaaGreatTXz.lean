/- part of the proof -/
import Derived.Test.YtikmepdhpffdoaaGreatTXy
namespace Go.Proofs.YtikmepdhpffdoaaGreat
open Go Go.RowKit
set_option maxRecDepth 100000
set_option maxHeartbeats 4000000
set_option linter.unusedVariables false
set_option linter.unusedSimpArgs false
theorem inv_st {x0 x3 x6 x44 : V} {o0 o3 o5 : Ob} (r k : Nat) (L : List RD) (hL : L.length = k) (q : Nat) :
    StI 0 ⟨[(0, x0), (1, .ref 0 0), (2, .ref 1 0), (3, x3), (4, I r), (5, .ref 2 0), (6, x6), (44, x44)], [o0, ⟨.own, T_impl_Matrix, [I 0, I 0, .emp]⟩, ⟨.own, T_impl_Matrix, [I r, I q, .rsl 4 3 0 k]⟩, o3, ⟨.own, T_impl_Rat, rsC .s L⟩, o5]⟩
      ⟨[(2, .ref 0 0), (4, I r), (5, .ref 1 0)], [⟨.own, T_impl_Matrix, [I 0, I 0, .emp]⟩, ⟨.own, T_impl_Matrix, [I r, I q, sR .s L]⟩]⟩ := by
  have h1 : StI 0 ⟨[(0, x0), (1, .ref 0 0), (2, .ref 1 0), (3, x3), (4, I r), (5, .ref 2 0), (6, x6), (44, x44)], [o0, ⟨.own, T_impl_Matrix, [I 0, I 0, .emp]⟩, ⟨.own, T_impl_Matrix, [I r, I q, .rsl 4 3 0 k]⟩, o3, ⟨.own, T_impl_Rat, rsC .s L⟩, o5]⟩ _ := StI.share 4 (cs' := rsC .s L) rfl lW (leL_rsC fun m => .sl _ _ _ _ _ _ (show FlLe .s .s .s from Or.inl rfl) (LeL.lits)) cl_rsC
  exact h1.trans (StI.ren [some 1, some 2] [[], []] lE (by decide) (by simp -dsimp(disch:=first|exact om|fail)only[go_sem,↓reduceIte,Nat.reduceEqDiff,Nat.reduceAdd,Nat.reduceSub,Nat.reduceMul,Nat.reduceLT,Nat.reduceLeDiff,reduceCtorEq,a_eq,a_neq,a_cast0,a_pred,a_app1,a_zero,Int.reduceToNat]; exact Rn.rslR rfl hL) lW)
theorem l07Inverse_c (m : MD) (r : Nat) (hg : m.Good r r) (hs : smallL m.cells) : PC PP F_spec_l07Inverse [mtV .s m] (moS (invN r (m.at r))) [] := by
  have h24 := hg.r24
  have hr := hg.er
  have hc := hg.ec
  have hgd : ∀ i j, i < r → j < r → (m.at r i j).good = true := fun i j hi hj => (MD.at_ok hg hi hj).1
  have qb := l07Beside_g r r r h24 h24 h24 .s .s fls (m.at r) idM
  rw [cells_at hg] at qb
  have qr := l07Reduce_g r (r + r) h24 (by omega) (besM r (m.at r) idM)
  refine txe W_spec_l07Inverse ke_spec_l07Inverse [(11, [3])] [6] [3] (by kernel_rfl) ?_
  simp -dsimp(disch:=first|exact om|fail)only[go_sem,↓reduceIte,Nat.reduceEqDiff,Nat.reduceAdd,Nat.reduceSub,Nat.reduceMul,Nat.reduceLT,Nat.reduceLeDiff,reduceCtorEq,a_eq,a_neq,a_cast0,a_pred,a_app1,a_zero,Int.reduceToNat, hr, hc]
  refine callO' (l06Identity_g r h24) lL lF ?_
  simp -dsimp(disch:=first|exact om|fail)only[go_sem,↓reduceIte,Nat.reduceEqDiff,Nat.reduceAdd,Nat.reduceSub,Nat.reduceMul,Nat.reduceLT,Nat.reduceLeDiff,reduceCtorEq,a_eq,a_neq,a_cast0,a_pred,a_app1,a_zero,Int.reduceToNat, hr, hc]
  refine callO' qb (.cons _ _ _ _ lW (.cons _ _ _ _ (.agg _ _ (.cons _ _ _ _ (.lit _) (.cons _ _ _ _ (.lit _) (.cons _ _ _ _ (le_ownSS rfl (by rw [List.length_map, gridL_length])) .nil)))) .nil)) lF ?_
  simp -dsimp(disch:=first|exact om|fail)only[go_sem,↓reduceIte,Nat.reduceEqDiff,Nat.reduceAdd,Nat.reduceSub,Nat.reduceMul,Nat.reduceLT,Nat.reduceLeDiff,reduceCtorEq,a_eq,a_neq,a_cast0,a_pred,a_app1,a_zero,Int.reduceToNat]
  refine callG' [4] qr (by decide) lL lL lE lF ?_
  obtain ⟨T, hT⟩ : ∃ T, T = refTo r (r + r) (besM r (m.at r) idM) (r + r) := ⟨_, rfl⟩
  rw [← hT]
  simp -dsimp(disch:=first|exact om|fail)only[go_sem,↓reduceIte,Nat.reduceEqDiff,Nat.reduceAdd,Nat.reduceSub,Nat.reduceMul,Nat.reduceLT,Nat.reduceLeDiff,reduceCtorEq,a_eq,a_neq,a_cast0,a_pred,a_app1,a_zero,Int.reduceToNat]
  have hll : (gridL r (r + r) T.M).length ≤ 1048576 := by rw [gridL_length]; have := Nat.mul_le_mul h24 (show r + r ≤ 48 by omega); omega
  refine callP (l05Fine_c .b flb (gridL r (r + r) T.M) hll) (.cons _ _ _ _ (le_ownSB rfl (by rw [List.length_map, gridL_length])) .nil) ?_
  rcases to_same (besM_good hgd (fun i j _ _ => idM_good i j)) (Nat.le_refl (r + r)) with ⟨a, e, hS⟩ | ⟨e, h1, h2⟩
  · rw [← hT] at hS
    have hcl : gridL r (r + r) T.M = gridL r (r + r) a.M := gridL_congr fun i j hi hj => (hS.m i j hi hj).symm
    have hal : allG (gridL r (r + r) a.M) = true := gridL_all fun i j hi hj => hS.good i j hi hj
    rw [hcl, hal, ← hS.piv]
    by_cases h1 : r ≤ a.piv.length
    · by_cases h2 : r = 0
      · subst h2
        have hb : solB 0 a.piv = true := by unfold solB; simp
        obtain ⟨X, hX⟩ : ∃ X : Nat → Nat → FQ, X = fun i k => a.M i (0 + k) := ⟨_, rfl⟩
        rw [show invN 0 (m.at 0) = cloQ 0 0 X by rw [hX]; unfold invN solO; rw [e]; simp only; rw [if_pos hb]]
        simp -dsimp(disch:=first|exact om|fail)only[go_sem,↓reduceIte,Nat.reduceEqDiff,Nat.reduceAdd,Nat.reduceSub,Nat.reduceMul,Nat.reduceLT,Nat.reduceLeDiff,reduceCtorEq,a_eq,a_neq,a_cast0,a_pred,a_app1,a_zero,Int.reduceToNat, hr]
        have hLL : ((gridL 0 (0 + 0) a.M).map qd).length = 0 * (0 + 0) := by rw [List.length_map, gridL_length]
        refine ⟨_, inv_st 0 (0 * (0 + 0)) ((gridL 0 (0 + 0) a.M).map qd) hLL (0 + 0), ?_⟩
        simp -dsimp(disch:=first|exact om|fail)only[go_sem,↓reduceIte,Nat.reduceEqDiff,Nat.reduceAdd,Nat.reduceSub,Nat.reduceMul,Nat.reduceLT,Nat.reduceLeDiff,reduceCtorEq,a_eq,a_neq,a_cast0,a_pred,a_app1,a_zero,Int.reduceToNat]
        have hXg : allG (gridL 0 0 X) = true := gridL_all fun i j hi hj => by rw [hX]; exact hS.good i (0 + j) hi (by omega)
        rw [cloQ_done, doneM, if_pos hXg]
        refine loopJ (fun i : Nat => i ≤ 0) (fun i => ⟨[(2, .ref 0 0), (4, I 0), (5, .ref 1 0), (8, .ref 2 0), (9, I i)], [⟨.own, T_impl_Matrix, [I 0, I 0, .emp]⟩, ⟨.own, T_impl_Matrix, [I 0, I (0 + 0 : Nat), sR .s ((gridL 0 (0 + 0) a.M).map qd)]⟩, ⟨.own, T_impl_Matrix, [I 0, I 0, .rsl 3 3 0 (i * 0)]⟩, ⟨.own, T_impl_Rat, rsC .s ((gridL i 0 X).map qd)⟩]⟩) (fun i => 0 - i) 0 (by omega) ?_ ?_
        · simp only [Nat.zero_mul]
          exact StI.ren [some 0, some 1, some 2, none] [[], [], [], []] lE (by decide) (by first | (simp -dsimp(disch:=first|exact om|fail)only[go_sem,↓reduceIte,Nat.reduceEqDiff,Nat.reduceAdd,Nat.reduceSub,Nat.reduceMul,Nat.reduceLT,Nat.reduceLeDiff,reduceCtorEq,a_eq,a_neq,a_cast0,a_pred,a_app1,a_zero,Int.reduceToNat]; done) | (simp -dsimp(disch:=first|exact om|fail)only[go_sem,↓reduceIte,Nat.reduceEqDiff,Nat.reduceAdd,Nat.reduceSub,Nat.reduceMul,Nat.reduceLT,Nat.reduceLeDiff,reduceCtorEq,a_eq,a_neq,a_cast0,a_pred,a_app1,a_zero,Int.reduceToNat]; exact rfl)) lW
        intro i hi
        obtain rfl : i = 0 := by omega
        have hLX : ((gridL 0 0 X).map qd).length = 0 * 0 := by rw [List.length_map, gridL_length]
        rw [← hLX]
        simp -dsimp(disch:=first|exact om|fail)only[go_sem,↓reduceIte,Nat.reduceEqDiff,Nat.reduceAdd,Nat.reduceSub,Nat.reduceMul,Nat.reduceLT,Nat.reduceLeDiff,reduceCtorEq,a_eq,a_neq,a_cast0,a_pred,a_app1,a_zero,Int.reduceToNat]
      · have e2 : ((r : Int) - 1).toNat = r - 1 := by omega
        by_cases h3 : a.piv.getD (r - 1) 0 = (r : Int) - 1
        · have hb : solB r a.piv = true := by unfold solB; rw [decide_eq_true h1, decide_eq_true h3, Bool.or_true]; rfl
          rw [show invN r (m.at r) = cloQ r r (fun i k => a.M i (r + k)) by unfold invN solO; rw [e]; simp only; rw [if_pos hb]]
          simp -dsimp(disch:=first|exact om|fail)only[go_sem,↓reduceIte,Nat.reduceEqDiff,Nat.reduceAdd,Nat.reduceSub,Nat.reduceMul,Nat.reduceLT,Nat.reduceLeDiff,reduceCtorEq,a_eq,a_neq,a_cast0,a_pred,a_app1,a_zero,Int.reduceToNat, hr, e2, h3]
          have hLL : ((gridL r (r + r) a.M).map qd).length = r * (r + r) := by rw [List.length_map, gridL_length]
          refine ⟨_, inv_st r (r * (r + r)) ((gridL r (r + r) a.M).map qd) hLL (r + r), ?_⟩
          simp -dsimp(disch:=first|exact om|fail)only[go_sem,↓reduceIte,Nat.reduceEqDiff,Nat.reduceAdd,Nat.reduceSub,Nat.reduceMul,Nat.reduceLT,Nat.reduceLeDiff,reduceCtorEq,a_eq,a_neq,a_cast0,a_pred,a_app1,a_zero,Int.reduceToNat]
          obtain ⟨X, hX⟩ : ∃ X : Nat → Nat → FQ, X = fun i k => a.M i (r + k) := ⟨_, rfl⟩
          rw [← hX]
          have hXg : allG (gridL r r X) = true := gridL_all fun i j hi hj => by rw [hX]; exact hS.good i (r + j) hi (by omega)
          rw [cloQ_done, doneM, if_pos hXg]
          have hbes : ∀ i, rowQ (r + r) (a.M i) = rowQ r (a.M i) ++ rowQ r (X i) := fun i => by
            have : a.M i = besM r a.M X i := by
              funext k; unfold besM
              split
              · rfl
              · rw [hX]; show a.M i k = a.M i (r + (k - r)); rw [show r + (k - r) = k by omega]
            rw [this, rowQ_bes]
            congr 1
            exact List.map_congr_left fun k hk => by unfold besM; rw [if_pos (List.mem_range.1 hk)]
          refine loopJ (fun i : Nat => i ≤ r) (fun i => ⟨[(2, .ref 0 0), (4, I r), (5, .ref 1 0), (8, .ref 2 0), (9, I i)], [⟨.own, T_impl_Matrix, [I 0, I 0, .emp]⟩, ⟨.own, T_impl_Matrix, [I r, I (r + r : Nat), sR .s ((gridL r (r + r) a.M).map qd)]⟩, ⟨.own, T_impl_Matrix, [I r, I r, .rsl 3 3 0 (i * r)]⟩, ⟨.own, T_impl_Rat, rsC .s ((gridL i r X).map qd)⟩]⟩) (fun i => r - i) 0 (by omega) ?_ ?_
          · simp only [Nat.zero_mul]
            exact StI.ren [some 0, some 1, some 2, none] [[], [], [], []] lE (by decide) (by simp -dsimp(disch:=first|exact om|fail)only[go_sem,↓reduceIte,Nat.reduceEqDiff,Nat.reduceAdd,Nat.reduceSub,Nat.reduceMul,Nat.reduceLT,Nat.reduceLeDiff,reduceCtorEq,a_eq,a_neq,a_cast0,a_pred,a_app1,a_zero,Int.reduceToNat]; exact rfl) lW
          intro i hi
          by_cases h : i < r
          · have q1 := l06Row_s r (r + r) (by omega) (by have := Nat.mul_le_mul h24 (show r + r ≤ 48 by omega); omega) .s .s fls a.M i h
            rw [← hLL] at q1
            have k1 : (rowQ r (a.M i)).length = r := rowQ_length
            have k2 : (rowQ r (X i)).length = r := rowQ_length
            have hdr : (rsC .s ((rowQ (r + r) (a.M i)).map qd)).drop (r * 3) = rsC .s ((rowQ r (X i)).map qd) := by
              rw [rsC_drop, hbes, List.map_append, List.drop_left' (by rw [List.length_map, k1])]
            have e3 : r + r - r = r := by omega
            have hb := row_le (c := r) h
            have hb2 := Nat.mul_le_mul h24 h24
            simp -dsimp(disch:=first|exact om|fail)only[go_sem,↓reduceIte,Nat.reduceEqDiff,Nat.reduceAdd,Nat.reduceSub,Nat.reduceMul,Nat.reduceLT,Nat.reduceLeDiff,reduceCtorEq,a_eq,a_neq,a_cast0,a_pred,a_app1,a_zero,Int.reduceToNat]
            refine callB' q1 lB lF ?_
            have htk : (rsC .s ((rowQ r (X i)).map qd)).take (r * 3) = rsC .s ((rowQ r (X i)).map qd) := List.take_of_length_le (by simp [rsC_length, k2])
            have hcat : rsC .s ((gridL i r X).map qd) ++ rsC .s ((rowQ r (X i)).map qd) = rsC .s ((gridL (i + 1) r X).map qd) := by
              rw [gridL_succ, List.map_append, rsC_append]
            have hlen : i * r + r = (i + 1) * r := by rw [Nat.succ_mul]
            simp -dsimp(disch:=first|exact om|fail)only[go_sem,↓reduceIte,Nat.reduceEqDiff,Nat.reduceAdd,Nat.reduceSub,Nat.reduceMul,Nat.reduceLT,Nat.reduceLeDiff,reduceCtorEq,a_eq,a_neq,a_cast0,a_pred,a_app1,a_zero,Int.reduceToNat, hdr, e3, htk, hcat, hlen]
            exact ⟨i + 1, by omega, by omega, StI.ren [some 0, some 1, some 2, some 4] [[], [], [], []] lE (by decide) lW lW⟩
          · obtain rfl : i = r := by omega
            have hLX : ((gridL i i X).map qd).length = i * i := by rw [List.length_map, gridL_length]
            rw [← hLX]
            simp -dsimp(disch:=first|exact om|fail)only[go_sem,↓reduceIte,Nat.reduceEqDiff,Nat.reduceAdd,Nat.reduceSub,Nat.reduceMul,Nat.reduceLT,Nat.reduceLeDiff,reduceCtorEq,a_eq,a_neq,a_cast0,a_pred,a_app1,a_zero,Int.reduceToNat]
        · have hb : solB r a.piv = false := by unfold solB; rw [decide_eq_false h2, decide_eq_false h3, Bool.or_false, Bool.and_false]
          rw [show invN r (m.at r) = noM by unfold invN solO; rw [e]; simp only; rw [if_neg (by rw [hb]; exact Bool.false_ne_true)]]
          unfold noM
          simp -dsimp(disch:=first|exact om|fail)only[go_sem,↓reduceIte,Nat.reduceEqDiff,Nat.reduceAdd,Nat.reduceSub,Nat.reduceMul,Nat.reduceLT,Nat.reduceLeDiff,reduceCtorEq,a_eq,a_neq,a_cast0,a_pred,a_app1,a_zero,Int.reduceToNat, hr, e2, h3]
    · have hb : solB r a.piv = false := by unfold solB; rw [decide_eq_false h1]; rfl
      rw [show invN r (m.at r) = noM by unfold invN solO; rw [e]; simp only; rw [if_neg (by rw [hb]; exact Bool.false_ne_true)]]
      unfold noM
      simp -dsimp(disch:=first|exact om|fail)only[go_sem,↓reduceIte,Nat.reduceEqDiff,Nat.reduceAdd,Nat.reduceSub,Nat.reduceMul,Nat.reduceLT,Nat.reduceLeDiff,reduceCtorEq,a_eq,a_neq,a_cast0,a_pred,a_app1,a_zero,Int.reduceToNat, hr]
  · rw [← hT] at h2
    rw [show invN r (m.at r) = noM by unfold invN solO; rw [e], h2]
    unfold noM
    simp -dsimp(disch:=first|exact om|fail)only[go_sem,↓reduceIte,Nat.reduceEqDiff,Nat.reduceAdd,Nat.reduceSub,Nat.reduceMul,Nat.reduceLT,Nat.reduceLeDiff,reduceCtorEq,a_eq,a_neq,a_cast0,a_pred,a_app1,a_zero,Int.reduceToNat]
end Go.Proofs.YtikmepdhpffdoaaGreat
