/- part of the proof -/
import Derived.Test.YtikmepdhpffdoaaGreatTYc
namespace Go.Proofs.YtikmepdhpffdoaaGreat
open Go Go.RowKit
set_option maxRecDepth 100000
set_option maxHeartbeats 4000000
set_option linter.unusedVariables false
set_option linter.unusedSimpArgs false
theorem col_list {n : Nat} {x : List FQ} (hx : x.length = n) : gridL n 1 (colM x) = x := by
  symm
  refine gridL_ext (by omega) fun i k hi hk => ?_
  obtain rfl : k = 0 := by omega
  simp [colM]
theorem sys_st {x0 x1 x4 x5 x8 x47 : V} {o0 o3 : Ob} (r k q : Nat) (L : List RD) (hL : L.length = k) :
    StI 0 ⟨[(0, x0), (1, x1), (2, .ref 0 0), (4, x4), (5, x5), (6, I r), (7, .ref 2 0), (8, x8), (47, x47)], [o0, ⟨.own, T_impl_Rat, rsC .s L⟩, ⟨.own, T_impl_Matrix, [I r, I q, .rsl 1 3 0 k]⟩, o3]⟩
      ⟨[(6, I r), (7, .ref 0 0)], [⟨.own, T_impl_Matrix, [I r, I q, sR .s L]⟩]⟩ := by
  have h1 : StI 0 ⟨[(0, x0), (1, x1), (2, .ref 0 0), (4, x4), (5, x5), (6, I r), (7, .ref 2 0), (8, x8), (47, x47)], [o0, ⟨.own, T_impl_Rat, rsC .s L⟩, ⟨.own, T_impl_Matrix, [I r, I q, .rsl 1 3 0 k]⟩, o3]⟩ _ := StI.share 1 (cs' := rsC .s L) rfl lW (leL_rsC fun m => .sl _ _ _ _ _ _ (show FlLe .s .s .s from Or.inl rfl) (LeL.lits)) cl_rsC
  exact h1.trans (StI.ren [some 2] [[]] lE (by decide) (by simp -dsimp(disch:=first|exact om|fail)only[go_sem,↓reduceIte,Nat.reduceEqDiff,Nat.reduceAdd,Nat.reduceSub,Nat.reduceMul,Nat.reduceLT,Nat.reduceLeDiff,reduceCtorEq,a_eq,a_neq,a_cast0,a_pred,a_app1,a_zero,Int.reduceToNat]; exact Rn.rslR rfl hL) lW)
theorem l07Solve_c (m : MD) (r : Nat) (hg : m.Good r r) (hs : smallL m.cells) (x : List FQ) (hx : x.length = r) (gx : allG x = true) : PC PP F_spec_l07Solve [mtV .s m, sR .s (x.map qd)] (vsS (sysN r (m.at r) x)) [] := by
  have h24 := hg.r24
  have hr := hg.er
  have hc := hg.ec
  have hgd : ∀ i j, i < r → j < r → (m.at r i j).good = true := fun i j hi hj => (MD.at_ok hg hi hj).1
  have hgx : ∀ i j, i < r → j < 1 → (colM x i j).good = true := fun i j hi hj => by
    show (x.getD i FQ.bad).good = true
    rw [allG_mem] at gx
    rw [List.getD_eq_getElem?_getD, List.getElem?_eq_getElem (by omega), Option.getD_some]
    exact gx _ (List.getElem_mem _)
  have qb := l07Beside_g r r 1 h24 h24 (by omega) .s .s fls (m.at r) (colM x)
  rw [cells_at hg, col_list hx, Nat.mul_one] at qb
  have qr := l07Reduce_g r (r + 1) h24 (by omega) (besM r (m.at r) (colM x))
  have hlx : (x.map qd).length = r := by rw [List.length_map, hx]
  refine txe W_spec_l07Solve ke_spec_l07Solve [(11, [1])] [6] [3] (by kernel_rfl) ?_
  simp -dsimp(disch:=first|exact om|fail)only[go_sem,↓reduceIte,Nat.reduceEqDiff,Nat.reduceAdd,Nat.reduceSub,Nat.reduceMul,Nat.reduceLT,Nat.reduceLeDiff,reduceCtorEq,a_eq,a_neq,a_cast0,a_pred,a_app1,a_zero,Int.reduceToNat, hr, hc]
  refine callO' qb (by simp -dsimp(disch:=first|exact om|fail)only[go_sem,↓reduceIte,Nat.reduceEqDiff,Nat.reduceAdd,Nat.reduceSub,Nat.reduceMul,Nat.reduceLT,Nat.reduceLeDiff,reduceCtorEq,a_eq,a_neq,a_cast0,a_pred,a_app1,a_zero,Int.reduceToNat, hr, hc, hlx]; rw [hx]; exact .sl _ _ _ _ _ _ (.inr rfl) (leL_rsC fun m => .sl _ _ _ _ _ _ (show FlLe .b .s .s from Or.inl rfl) LeL.lits)) lF ?_
  simp -dsimp(disch:=first|exact om|fail)only[go_sem,↓reduceIte,Nat.reduceEqDiff,Nat.reduceAdd,Nat.reduceSub,Nat.reduceMul,Nat.reduceLT,Nat.reduceLeDiff,reduceCtorEq,a_eq,a_neq,a_cast0,a_pred,a_app1,a_zero,Int.reduceToNat]
  refine callG' [1] qr (by decide) lL lL lE lF ?_
  obtain ⟨T, hT⟩ : ∃ T, T = refTo r (r + 1) (besM r (m.at r) (colM x)) (r + 1) := ⟨_, rfl⟩
  rw [← hT]
  simp -dsimp(disch:=first|exact om|fail)only[go_sem,↓reduceIte,Nat.reduceEqDiff,Nat.reduceAdd,Nat.reduceSub,Nat.reduceMul,Nat.reduceLT,Nat.reduceLeDiff,reduceCtorEq,a_eq,a_neq,a_cast0,a_pred,a_app1,a_zero,Int.reduceToNat]
  have hll : (gridL r (r + 1) T.M).length ≤ 1048576 := by rw [gridL_length]; have := Nat.mul_le_mul h24 (show r + 1 ≤ 48 by omega); omega
  refine callP (l05Fine_c .b flb (gridL r (r + 1) T.M) hll) (.cons _ _ _ _ (le_ownSB rfl (by rw [List.length_map, gridL_length])) .nil) ?_
  rcases to_same (besM_good hgd hgx) (Nat.le_refl (r + 1)) with ⟨a, e, hS⟩ | ⟨e, h1, h2⟩
  · rw [← hT] at hS
    have hcl : gridL r (r + 1) T.M = gridL r (r + 1) a.M := gridL_congr fun i j hi hj => (hS.m i j hi hj).symm
    have hal : allG (gridL r (r + 1) a.M) = true := gridL_all fun i j hi hj => hS.good i j hi hj
    rw [hcl, hal, ← hS.piv]
    by_cases h1 : r ≤ a.piv.length
    · by_cases h2 : r = 0
      · subst h2
        have hb : solB 0 a.piv = true := by unfold solB; simp
        have hx0 : x = [] := List.eq_nil_of_length_eq_zero hx
        rw [show sysN 0 (m.at 0) x = ([], true) by unfold sysN solO; rw [e]; simp only; rw [if_pos hb]; rfl]
        simp -dsimp(disch:=first|exact om|fail)only[go_sem,↓reduceIte,Nat.reduceEqDiff,Nat.reduceAdd,Nat.reduceSub,Nat.reduceMul,Nat.reduceLT,Nat.reduceLeDiff,reduceCtorEq,a_eq,a_neq,a_cast0,a_pred,a_app1,a_zero,Int.reduceToNat, hr]
        have hLL : ((gridL 0 (0 + 1) a.M).map qd).length = 0 * (0 + 1) := by rw [List.length_map, gridL_length]
        refine ⟨_, sys_st 0 (0 * (0 + 1)) (0 + 1) ((gridL 0 (0 + 1) a.M).map qd) hLL, ?_⟩
        simp -dsimp(disch:=first|exact om|fail)only[go_sem,↓reduceIte,Nat.reduceEqDiff,Nat.reduceAdd,Nat.reduceSub,Nat.reduceMul,Nat.reduceLT,Nat.reduceLeDiff,reduceCtorEq,a_eq,a_neq,a_cast0,a_pred,a_app1,a_zero,Int.reduceToNat]
        refine loopJ (fun i : Nat => i ≤ 0) (fun i => ⟨[(6, I 0), (7, .ref 0 0), (10, .rsl 1 3 0 i), (11, I i)], [⟨.own, T_impl_Matrix, [I 0, I (0 + 1 : Nat), sR .s ((gridL 0 (0 + 1) a.M).map qd)]⟩, ⟨.own, T_impl_Rat, rsC .s (([] : List FQ).map qd)⟩]⟩) (fun i => 0 - i) 0 (by omega) ?_ ?_
        · exact StI.ren [some 0, none] [[], []] lE (by decide) lW lW
        intro i hi
        obtain rfl : i = 0 := by omega
        simp -dsimp(disch:=first|exact om|fail)only[go_sem,↓reduceIte,Nat.reduceEqDiff,Nat.reduceAdd,Nat.reduceSub,Nat.reduceMul,Nat.reduceLT,Nat.reduceLeDiff,reduceCtorEq,a_eq,a_neq,a_cast0,a_pred,a_app1,a_zero,Int.reduceToNat]
        exact of_eq_true (le_frzR (l := []) lW (OM.mk rfl) (OM.mk rfl))
      · have e2 : ((r : Int) - 1).toNat = r - 1 := by omega
        by_cases h3 : a.piv.getD (r - 1) 0 = (r : Int) - 1
        · have hb : solB r a.piv = true := by unfold solB; rw [decide_eq_true h1, decide_eq_true h3, Bool.or_true]; rfl
          obtain ⟨o, ho⟩ : ∃ o, o = rowQ r fun i => a.M i (r + 0) := ⟨_, rfl⟩
          rw [show sysN r (m.at r) x = (o, true) by rw [ho]; unfold sysN solO; rw [e]; simp only; rw [if_pos hb]]
          simp -dsimp(disch:=first|exact om|fail)only[go_sem,↓reduceIte,Nat.reduceEqDiff,Nat.reduceAdd,Nat.reduceSub,Nat.reduceMul,Nat.reduceLT,Nat.reduceLeDiff,reduceCtorEq,a_eq,a_neq,a_cast0,a_pred,a_app1,a_zero,Int.reduceToNat, hr, e2, h3]
          have hLL : ((gridL r (r + 1) a.M).map qd).length = r * (r + 1) := by rw [List.length_map, gridL_length]
          have hlo : o.length = r := by rw [ho]; exact rowQ_length
          have hoi : ∀ i, i < r → o.getD i FQ.bad = a.M i r := fun i hi => by rw [ho]; exact rowQ_get hi
          refine ⟨_, sys_st r (r * (r + 1)) (r + 1) ((gridL r (r + 1) a.M).map qd) hLL, ?_⟩
          simp -dsimp(disch:=first|exact om|fail)only[go_sem,↓reduceIte,Nat.reduceEqDiff,Nat.reduceAdd,Nat.reduceSub,Nat.reduceMul,Nat.reduceLT,Nat.reduceLeDiff,reduceCtorEq,a_eq,a_neq,a_cast0,a_pred,a_app1,a_zero,Int.reduceToNat]
          refine loopJ (fun i : Nat => i ≤ r) (fun i => ⟨[(6, I r), (7, .ref 0 0), (10, .rsl 1 3 0 i), (11, I i)], [⟨.own, T_impl_Matrix, [I r, I (r + 1 : Nat), sR .s ((gridL r (r + 1) a.M).map qd)]⟩, ⟨.own, T_impl_Rat, rsC .s ((o.take i).map qd)⟩]⟩) (fun i => r - i) 0 (by omega) ?_ ?_
          · exact StI.ren [some 0, none] [[], []] lE (by decide) lW lW
          intro i hi
          by_cases h : i < r
          · have q1 := l06At_s r (r + 1) (by have := Nat.mul_le_mul h24 (show r + 1 ≤ 48 by omega); omega) a.M i r h (by omega)
            rw [← hoi i h] at q1
            have hle : ∀ H, Le H .b (sR .s ((gridL r (r + 1) a.M).map qd)) (.sl .b 3 (r * (r + 1)) (rsC .s ((gridL r (r + 1) a.M).map qd))) := fun H => by
              rw [← hLL]; exact .sl _ _ _ _ _ _ (.inr rfl) (leL_rsC fun m => .sl _ _ _ _ _ _ (show FlLe .b .s .s from Or.inl rfl) LeL.lits)
            simp -dsimp(disch:=first|exact om|fail)only[go_sem,↓reduceIte,Nat.reduceEqDiff,Nat.reduceAdd,Nat.reduceSub,Nat.reduceMul,Nat.reduceLT,Nat.reduceLeDiff,reduceCtorEq,a_eq,a_neq,a_cast0,a_pred,a_app1,a_zero,Int.reduceToNat]
            refine callP q1 (.cons _ _ _ _ (.agg _ _ (.cons _ _ _ _ (.lit _) (.cons _ _ _ _ (.lit _) (.cons _ _ _ _ (hle _) .nil)))) (.cons _ _ _ _ (.lit _) (.cons _ _ _ _ (.lit _) .nil))) ?_
            simp -dsimp(disch:=first|exact om|fail)only[go_sem,↓reduceIte,Nat.reduceEqDiff,Nat.reduceAdd,Nat.reduceSub,Nat.reduceMul,Nat.reduceLT,Nat.reduceLeDiff,reduceCtorEq,a_eq,a_neq,a_cast0,a_pred,a_app1,a_zero,Int.reduceToNat]
            exact ⟨i + 1, by omega, by omega, StI.ren [some 0, some 2] [[], []] lE (by decide) (by rw [rs_push (by omega)]; simp -dsimp(disch:=first|exact om|fail)only[go_sem,↓reduceIte,Nat.reduceEqDiff,Nat.reduceAdd,Nat.reduceSub,Nat.reduceMul,Nat.reduceLT,Nat.reduceLeDiff,reduceCtorEq,a_eq,a_neq,a_cast0,a_pred,a_app1,a_zero,Int.reduceToNat]) lW⟩
          · obtain rfl : i = r := by omega
            rw [show o.take i = o by rw [List.take_of_length_le (by omega)]]
            simp -dsimp(disch:=first|exact om|fail)only[go_sem,↓reduceIte,Nat.reduceEqDiff,Nat.reduceAdd,Nat.reduceSub,Nat.reduceMul,Nat.reduceLT,Nat.reduceLeDiff,reduceCtorEq,a_eq,a_neq,a_cast0,a_pred,a_app1,a_zero,Int.reduceToNat]
        · have hb : solB r a.piv = false := by unfold solB; rw [decide_eq_false h2, decide_eq_false h3, Bool.or_false, Bool.and_false]
          rw [show sysN r (m.at r) x = noV by unfold sysN solO; rw [e]; simp only; rw [if_neg (by rw [hb]; exact Bool.false_ne_true)]]
          unfold noV
          simp -dsimp(disch:=first|exact om|fail)only[go_sem,↓reduceIte,Nat.reduceEqDiff,Nat.reduceAdd,Nat.reduceSub,Nat.reduceMul,Nat.reduceLT,Nat.reduceLeDiff,reduceCtorEq,a_eq,a_neq,a_cast0,a_pred,a_app1,a_zero,Int.reduceToNat, hr, e2, h3]
    · have hb : solB r a.piv = false := by unfold solB; rw [decide_eq_false h1]; rfl
      rw [show sysN r (m.at r) x = noV by unfold sysN solO; rw [e]; simp only; rw [if_neg (by rw [hb]; exact Bool.false_ne_true)]]
      unfold noV
      simp -dsimp(disch:=first|exact om|fail)only[go_sem,↓reduceIte,Nat.reduceEqDiff,Nat.reduceAdd,Nat.reduceSub,Nat.reduceMul,Nat.reduceLT,Nat.reduceLeDiff,reduceCtorEq,a_eq,a_neq,a_cast0,a_pred,a_app1,a_zero,Int.reduceToNat, hr]
  · rw [← hT] at h2
    rw [show sysN r (m.at r) x = noV by unfold sysN solO; rw [e], h2]
    unfold noV
    simp -dsimp(disch:=first|exact om|fail)only[go_sem,↓reduceIte,Nat.reduceEqDiff,Nat.reduceAdd,Nat.reduceSub,Nat.reduceMul,Nat.reduceLT,Nat.reduceLeDiff,reduceCtorEq,a_eq,a_neq,a_cast0,a_pred,a_app1,a_zero,Int.reduceToNat]
theorem spec_SolveSystem_c (m : MD) (l : List RD) (hs : smallL m.cells) (hl : smallL l) : PC PP F_spec_SolveSystem [mtV .s m, sR .s l] (vsS (sysQ m l)) [] := by
  have hl1 := hl.1
  have q1 := spec_MatrixOk_c m .s fls hs
  have q2 := spec_IsVector_c .s fls l hl
  refine tx W_spec_SolveSystem ke_spec_SolveSystem [] (by kernel_rfl) ?_
  simp -dsimp(disch:=first|exact om|fail)only[go_sem,↓reduceIte,Nat.reduceEqDiff,Nat.reduceAdd,Nat.reduceSub,Nat.reduceMul,Nat.reduceLT,Nat.reduceLeDiff,reduceCtorEq,a_eq,a_neq,a_cast0,a_pred,a_app1,a_zero,Int.reduceToNat]
  cases ho : m.ok
  · rw [ho] at q1
    rw [sysQ_no (by unfold sysOk; rw [ho]; rfl)]
    refine callP q1 lL ?_
    simp -dsimp(disch:=first|exact om|fail)only[go_sem,↓reduceIte,Nat.reduceEqDiff,Nat.reduceAdd,Nat.reduceSub,Nat.reduceMul,Nat.reduceLT,Nat.reduceLeDiff,reduceCtorEq,a_eq,a_neq,a_cast0,a_pred,a_app1,a_zero,Int.reduceToNat]
  · rw [ho] at q1
    refine callP q1 lL ?_
    simp -dsimp(disch:=first|exact om|fail)only[go_sem,↓reduceIte,Nat.reduceEqDiff,Nat.reduceAdd,Nat.reduceSub,Nat.reduceMul,Nat.reduceLT,Nat.reduceLeDiff,reduceCtorEq,a_eq,a_neq,a_cast0,a_pred,a_app1,a_zero,Int.reduceToNat]
    cases hv : vokR l
    · rw [hv] at q2
      rw [sysQ_no (by unfold sysOk; rw [ho, hv]; rfl)]
      refine callP q2 lL ?_
      simp -dsimp(disch:=first|exact om|fail)only[go_sem,↓reduceIte,Nat.reduceEqDiff,Nat.reduceAdd,Nat.reduceSub,Nat.reduceMul,Nat.reduceLT,Nat.reduceLeDiff,reduceCtorEq,a_eq,a_neq,a_cast0,a_pred,a_app1,a_zero,Int.reduceToNat]
    · rw [hv] at q2
      refine callP q2 lL ?_
      by_cases h1 : m.rows = m.cols
      · obtain ⟨r, c, hg⟩ := MD.ok_good ho
        obtain rfl : r = c := by have := hg.er; have := hg.ec; omega
        have hr := hg.er
        have hc := hg.ec
        by_cases h2 : r ≤ 12
        · by_cases h3 : l.length = r
          · have hk : sysOk m l = true := by
              unfold sysOk
              rw [ho, hv, decide_eq_true h1, decide_eq_true (show m.rows ≤ 12 by omega), decide_eq_true (show (l.length : Int) = m.rows by omega)]; rfl
            obtain ⟨y, e3, _, e4, gy⟩ := vok_list hv
            have hy : y.length = r := by rw [← e4, List.length_map, h3]
            have q3 := l07Solve_c m r hg hs y hy gy
            rw [← e3] at q3
            rw [sysQ_ok hk hg, e4]
            generalize sysN r (m.at r) y = p at *
            obtain ⟨M, b⟩ := p
            simp -dsimp(disch:=first|exact om|fail)only[go_sem,↓reduceIte,Nat.reduceEqDiff,Nat.reduceAdd,Nat.reduceSub,Nat.reduceMul,Nat.reduceLT,Nat.reduceLeDiff,reduceCtorEq,a_eq,a_neq,a_cast0,a_pred,a_app1,a_zero,Int.reduceToNat, hr, hc, h3]
            refine callP q3 (by simp -dsimp(disch:=first|exact om|fail)only[go_sem,↓reduceIte,Nat.reduceEqDiff,Nat.reduceAdd,Nat.reduceSub,Nat.reduceMul,Nat.reduceLT,Nat.reduceLeDiff,reduceCtorEq,a_eq,a_neq,a_cast0,a_pred,a_app1,a_zero,Int.reduceToNat, hr, hc]) ?_
            simp -dsimp(disch:=first|exact om|fail)only[go_sem,↓reduceIte,Nat.reduceEqDiff,Nat.reduceAdd,Nat.reduceSub,Nat.reduceMul,Nat.reduceLT,Nat.reduceLeDiff,reduceCtorEq,a_eq,a_neq,a_cast0,a_pred,a_app1,a_zero,Int.reduceToNat]
          · rw [sysQ_no (by unfold sysOk; rw [decide_eq_false (show ¬ (l.length : Int) = m.rows by omega), Bool.and_false])]
            simp -dsimp(disch:=first|exact om|fail)only[go_sem,↓reduceIte,Nat.reduceEqDiff,Nat.reduceAdd,Nat.reduceSub,Nat.reduceMul,Nat.reduceLT,Nat.reduceLeDiff,reduceCtorEq,a_eq,a_neq,a_cast0,a_pred,a_app1,a_zero,Int.reduceToNat, hr, hc]
        · rw [sysQ_no (by unfold sysOk; rw [decide_eq_false (show ¬ m.rows ≤ 12 by omega), Bool.and_false, Bool.false_and])]
          simp -dsimp(disch:=first|exact om|fail)only[go_sem,↓reduceIte,Nat.reduceEqDiff,Nat.reduceAdd,Nat.reduceSub,Nat.reduceMul,Nat.reduceLT,Nat.reduceLeDiff,reduceCtorEq,a_eq,a_neq,a_cast0,a_pred,a_app1,a_zero,Int.reduceToNat, hr, hc]
      · rw [sysQ_no (by unfold sysOk; rw [decide_eq_false h1, Bool.and_false, Bool.false_and, Bool.false_and])]
        simp -dsimp(disch:=first|exact om|fail)only[go_sem,↓reduceIte,Nat.reduceEqDiff,Nat.reduceAdd,Nat.reduceSub,Nat.reduceMul,Nat.reduceLT,Nat.reduceLeDiff,reduceCtorEq,a_eq,a_neq,a_cast0,a_pred,a_app1,a_zero,Int.reduceToNat, h1]
end Go.Proofs.YtikmepdhpffdoaaGreat
