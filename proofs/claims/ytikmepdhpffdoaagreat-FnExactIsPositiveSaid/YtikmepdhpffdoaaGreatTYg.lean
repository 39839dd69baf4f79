/- part of the proof -/
import Derived.Test.YtikmepdhpffdoaaGreatTYf
namespace Go.Proofs.YtikmepdhpffdoaaGreat
open Go Go.RowKit
set_option maxRecDepth 100000
set_option maxHeartbeats 4000000
set_option linter.unusedVariables false
set_option linter.unusedSimpArgs false
theorem at_own {H : List Ob} {n a b id : Nat} {ty : TypeId} {L : Nat → Nat → FQ} (h : H[id]? = some ⟨.own, ty, rsC .s ((gridL n n L).map qd)⟩) :
    LeL H .b [.agg [I n, I n, .rsl id 3 0 (n * n)], I a, I b] [.agg [I n, I n, .sl .b 3 (n * n) (rsC .s ((gridL n n L).map qd))], I a, I b] :=
  .cons _ _ _ _ (.agg _ _ (.cons _ _ _ _ (.lit _) (.cons _ _ _ _ (.lit _) (.cons _ _ _ _ (le_ownSS h (by rw [List.length_map, gridL_length])) .nil)))) (.cons _ _ _ _ (.lit _) (.cons _ _ _ _ (.lit _) .nil))
theorem at_s {H : List Ob} {n a b : Nat} {L : Nat → Nat → FQ} :
    LeL H .b [.agg [I n, I n, .sl .s 3 (n * n) (rsC .s ((gridL n n L).map qd))], I a, I b] [.agg [I n, I n, .sl .b 3 (n * n) (rsC .s ((gridL n n L).map qd))], I a, I b] :=
  .cons _ _ _ _ (.agg _ _ (.cons _ _ _ _ (.lit _) (.cons _ _ _ _ (.lit _) (.cons _ _ _ _ (.sl _ _ _ _ _ _ (.inr rfl) (leL_rsC fun m => .sl _ _ _ _ _ _ (show FlLe .b .s .s from Or.inl rfl) LeL.lits)) .nil)))) (.cons _ _ _ _ (.lit _) (.cons _ _ _ _ (.lit _) .nil))
abbrev faS (p : MD × List FQ × Bool) : V := .tup [mtV .s p.1, sR .s (p.2.1.map qd), Bo p.2.2]
theorem fcL_all {n k : Nat} {M L : Nat → Nat → FQ} {D : Nat → FQ} (hk : k < n) (hL : ∀ i j, i < n → j < n → (L i j).good = true) :
    allG (gridL n n (fcL M L D k)) = true ↔ ∀ i, i < n → k < i → (fcL M L D k i k).good = true := by
  constructor
  · intro h i hi _
    rw [allG_mem] at h
    exact h _ (List.mem_flatMap.2 ⟨i, List.mem_range.2 hi, List.mem_map.2 ⟨k, List.mem_range.2 hk, rfl⟩⟩)
  · intro h
    refine gridL_all fun i j hi hj => ?_
    by_cases q : j = k ∧ k < i
    · rw [q.1]; exact h i hi q.2
    · unfold fcL; rw [if_neg q]; exact hL i j hi hj
abbrev fsF (n k : Nat) (M L : Nat → Nat → FQ) (D : Nat → FQ) (d : Nat) : List Ob := [⟨.own, T_impl_Matrix, [I n, I n, .sl .s 3 (n * n) (rsC .s ((gridL n n M).map qd))]⟩, ⟨.own, T_impl_Matrix, [I 0, I 0, .emp]⟩, ⟨.own, T_impl_Rat, rsC .s ((gridL n n L).map qd)⟩, ⟨.own, T_impl_Matrix, [I n, I n, .rsl 2 3 0 (n * n)]⟩, ⟨.own, T_impl_Rat, rsC .s ((rowQ d D).map qd)⟩]
attribute [go_sem] fsF
theorem l08Factor_c (m : MD) (n : Nat) (hg : m.Good n n) (hs : smallL m.cells) : PC PP F_spec_l08Factor [mtV .s m] (faS (facN n (m.at n))) [] := by
  have h24 := hg.r24
  have hr := hg.er
  have hc := hg.ec
  have hnn := rc_le h24 h24
  have hmv : mtV .s m = .agg [I n, I n, .sl .s 3 (n * n) (rsC .s ((gridL n n (m.at n)).map qd))] := by
    show V.agg [I m.rows, I m.cols, .sl .s 3 m.cells.length (rsC .s m.cells)] = _
    rw [hr, hc, hg.len, cells_at hg]
  rw [hmv]
  generalize m.at n = M at *
  have hat := fun N i j hi hj => l06At_s n n (by omega) N i j hi hj
  have hgl : ∀ N, ((gridL n n N).map qd).length = n * n := fun N => by rw [List.length_map, gridL_length]
  refine txe W_spec_l08Factor ke_spec_l08Factor [(27, [2, 4])] [] [] (by kernel_rfl) ?_
  simp -dsimp(disch:=first|exact om|fail)only[go_sem,↓reduceIte,Nat.reduceEqDiff,Nat.reduceAdd,Nat.reduceSub,Nat.reduceMul,Nat.reduceLT,Nat.reduceLeDiff,reduceCtorEq,a_eq,a_neq,a_cast0,a_pred,a_app1,a_zero,Int.reduceToNat]
  refine callO' (l06Identity_g n h24) lL lF ?_
  simp -dsimp(disch:=first|exact om|fail)only[go_sem,↓reduceIte,Nat.reduceEqDiff,Nat.reduceAdd,Nat.reduceSub,Nat.reduceMul,Nat.reduceLT,Nat.reduceLeDiff,reduceCtorEq,a_eq,a_neq,a_cast0,a_pred,a_app1,a_zero,Int.reduceToNat]
  refine loopJ (fun y : Nat × FS => y.1 ≤ n ∧ facTo n M y.1 = some y.2) (fun y => ⟨[(1, .ref 0 0), (2, .ref 1 0), (5, I n), (6, .ref 3 0), (7, .rsl 4 3 0 y.1), (8, I y.1)], fsF n y.1 M y.2.L y.2.D y.1⟩) (fun y => n - y.1) (0, ⟨idM, fun _ => FQ.bad⟩) ⟨by omega, rfl⟩ ?_ ?_
  · refine StI.ren [some 0, some 1, some 2, some 3, none] [[], [], [], [], []] lE (by decide) ?_ lW
    simp -dsimp(disch:=first|exact om|fail)only[go_sem,↓reduceIte,Nat.reduceEqDiff,Nat.reduceAdd,Nat.reduceSub,Nat.reduceMul,Nat.reduceLT,Nat.reduceLeDiff,reduceCtorEq,a_eq,a_neq,a_cast0,a_pred,a_app1,a_zero,Int.reduceToNat]
    rfl
  rintro ⟨k, ⟨L, D⟩⟩ ⟨hk, hst⟩
  simp only at hk hst ⊢
  have hinv := facTo_inv hst
  by_cases h : k < n
  · have hstep : facTo n M (k + 1) = facStep n M ⟨L, D⟩ k := by
      show (match facTo n M k with | none => none | some s => facStep n M s k) = _
      rw [hst]
    have hDl : ((rowQ k D).map qd).length = k := by rw [List.length_map, rowQ_length]
    simp -dsimp(disch:=first|exact om|fail)only[go_sem,↓reduceIte,Nat.reduceEqDiff,Nat.reduceAdd,Nat.reduceSub,Nat.reduceMul,Nat.reduceLT,Nat.reduceLeDiff,reduceCtorEq,a_eq,a_neq,a_cast0,a_pred,a_app1,a_zero,Int.reduceToNat]
    refine callP (hat M k k h h) at_s ?_
    simp -dsimp(disch:=first|exact om|fail)only[go_sem,↓reduceIte,Nat.reduceEqDiff,Nat.reduceAdd,Nat.reduceSub,Nat.reduceMul,Nat.reduceLT,Nat.reduceLeDiff,reduceCtorEq,a_eq,a_neq,a_cast0,a_pred,a_app1,a_zero,Int.reduceToNat]
    refine loopJ (fun j : Nat => j ≤ k) (fun j => ⟨[(1, .ref 0 0), (2, .ref 1 0), (5, I n), (6, .ref 3 0), (7, .rsl 4 3 0 k), (8, I k), (9, .ref 5 0), (10, I j)], fsF n k M L D k ++ [⟨.own, T_impl_Rat, rdC .s (qd (restQ M L D k k j))⟩]⟩) (fun j => k - j) 0 (by omega) ?_ ?_
    · exact StI.ren [some 0, some 1, some 2, some 3, some 4, some 5] [[], [], [], [], [], []] lE (by decide) (by simp -dsimp(disch:=first|exact om|fail)only[go_sem,↓reduceIte,Nat.reduceEqDiff,Nat.reduceAdd,Nat.reduceSub,Nat.reduceMul,Nat.reduceLT,Nat.reduceLeDiff,reduceCtorEq,a_eq,a_neq,a_cast0,a_pred,a_app1,a_zero,Int.reduceToNat]; exact ⟨rfl, ⟨rfl, rfl⟩, rfl, rfl⟩) lW
    intro j hj
    by_cases h1 : j < k
    · obtain ⟨x, hx⟩ : ∃ x, x = restQ M L D k k j := ⟨_, rfl⟩
      have hs : restQ M L D k k (j + 1) = x.sub (((L k j).mul (L k j)).mul (D j)) := by rw [hx]; rfl
      have hgx : ((rowQ k D).map qd).getD j RD.zero = qd (D j) := by rw [getD_map_qd (OM.mk (by rw [rowQ_length]; exact h1)), rowQ_get h1]
      rw [← hx]
      simp -dsimp(disch:=first|exact om|fail)only[go_sem,↓reduceIte,Nat.reduceEqDiff,Nat.reduceAdd,Nat.reduceSub,Nat.reduceMul,Nat.reduceLT,Nat.reduceLeDiff,reduceCtorEq,a_eq,a_neq,a_cast0,a_pred,a_app1,a_zero,Int.reduceToNat]
      refine callP (hat L k j h (by omega)) (at_own rfl) ?_
      simp -dsimp(disch:=first|exact om|fail)only[go_sem,↓reduceIte,Nat.reduceEqDiff,Nat.reduceAdd,Nat.reduceSub,Nat.reduceMul,Nat.reduceLT,Nat.reduceLeDiff,reduceCtorEq,a_eq,a_neq,a_cast0,a_pred,a_app1,a_zero,Int.reduceToNat, hgx]
      refine callP (l04Mul_c .s .s fls fls (L k j) (L k j)) lL ?_
      simp -dsimp(disch:=first|exact om|fail)only[go_sem,↓reduceIte,Nat.reduceEqDiff,Nat.reduceAdd,Nat.reduceSub,Nat.reduceMul,Nat.reduceLT,Nat.reduceLeDiff,reduceCtorEq,a_eq,a_neq,a_cast0,a_pred,a_app1,a_zero,Int.reduceToNat, hgx]
      refine callP (l04Mul_c .s .s fls fls ((L k j).mul (L k j)) (D j)) lL ?_
      simp -dsimp(disch:=first|exact om|fail)only[go_sem,↓reduceIte,Nat.reduceEqDiff,Nat.reduceAdd,Nat.reduceSub,Nat.reduceMul,Nat.reduceLT,Nat.reduceLeDiff,reduceCtorEq,a_eq,a_neq,a_cast0,a_pred,a_app1,a_zero,Int.reduceToNat]
      refine callP (l05Sub_c .s .s fls fls x (((L k j).mul (L k j)).mul (D j))) lL ?_
      rw [← hs]
      simp -dsimp(disch:=first|exact om|fail)only[go_sem,↓reduceIte,Nat.reduceEqDiff,Nat.reduceAdd,Nat.reduceSub,Nat.reduceMul,Nat.reduceLT,Nat.reduceLeDiff,reduceCtorEq,a_eq,a_neq,a_cast0,a_pred,a_app1,a_zero,Int.reduceToNat]
      exact ⟨j + 1, by omega, by omega, StI.ren [some 0, some 1, some 2, some 3, some 4, some 5] [[], [], [], [], [], []] lE (by decide) lW lW⟩
    · obtain rfl : j = k := by omega
      clear hDl
      obtain ⟨x, hx⟩ : ∃ x, x = restQ M L D j j j := ⟨_, rfl⟩
      rw [← hx]
      simp -dsimp(disch:=first|exact om|fail)only[go_sem,↓reduceIte,Nat.reduceEqDiff,Nat.reduceAdd,Nat.reduceSub,Nat.reduceMul,Nat.reduceLT,Nat.reduceLeDiff,reduceCtorEq,a_eq,a_neq,a_cast0,a_pred,a_app1,a_zero,Int.reduceToNat]
      refine callP (l05Bad_c .s fls x) lL ?_
      have hno : (¬ (x.good = true ∧ 0 < x.num)) → facN n M = noF := fun q => facN_none (facTo_none (k := j + 1) (by rw [hstep]; unfold facStep; exact if_neg (fun r => by have h1 := r.1; have h2 := r.2.1; unfold fcX at h1 h2; rw [← hx] at h1 h2; exact q ⟨h1, h2⟩)) (by omega))
      cases hxg : x.good
      · rw [hno (fun q => by rw [hxg] at q; exact absurd q.1 (by decide))]
        simp -dsimp(disch:=first|exact om|fail)only[go_sem,↓reduceIte,Nat.reduceEqDiff,Nat.reduceAdd,Nat.reduceSub,Nat.reduceMul,Nat.reduceLT,Nat.reduceLeDiff,reduceCtorEq,a_eq,a_neq,a_cast0,a_pred,a_app1,a_zero,Int.reduceToNat]
      · by_cases hxp : 0 < x.num
        · have hz1 : (qd x).neg = false := by show zb x.num = false; unfold zb; exact decide_eq_false (by omega)
          have hz2 : ¬ x.num = 0 := by omega
          simp -dsimp(disch:=first|exact om|fail)only[go_sem,↓reduceIte,Nat.reduceEqDiff,Nat.reduceAdd,Nat.reduceSub,Nat.reduceMul,Nat.reduceLT,Nat.reduceLeDiff,reduceCtorEq,a_eq,a_neq,a_cast0,a_pred,a_app1,a_zero,Int.reduceToNat, hz1]
          refine callP (l05Nil_c .s fls x) (by simp -dsimp(disch:=first|exact om|fail)only[go_sem,↓reduceIte,Nat.reduceEqDiff,Nat.reduceAdd,Nat.reduceSub,Nat.reduceMul,Nat.reduceLT,Nat.reduceLeDiff,reduceCtorEq,a_eq,a_neq,a_cast0,a_pred,a_app1,a_zero,Int.reduceToNat, hz1]) ?_
          simp -dsimp(disch:=first|exact om|fail)only[go_sem,↓reduceIte,Nat.reduceEqDiff,Nat.reduceAdd,Nat.reduceSub,Nat.reduceMul,Nat.reduceLT,Nat.reduceLeDiff,reduceCtorEq,a_eq,a_neq,a_cast0,a_pred,a_app1,a_zero,Int.reduceToNat, hz1, hz2]
          refine callP (l04Copy_c .s fls (qd x) (qd_small x)) (by simp -dsimp(disch:=first|exact om|fail)only[go_sem,↓reduceIte,Nat.reduceEqDiff,Nat.reduceAdd,Nat.reduceSub,Nat.reduceMul,Nat.reduceLT,Nat.reduceLeDiff,reduceCtorEq,a_eq,a_neq,a_cast0,a_pred,a_app1,a_zero,Int.reduceToNat, hz1]) ?_
          obtain ⟨D', hD'⟩ : ∃ D', D' = fcD M L D j := ⟨_, rfl⟩
          have hDj : D' j = x := by rw [hD', hx]; unfold fcD; rw [if_pos rfl]; rfl
          have hDl' : rsC .s ((rowQ j D).map qd) ++ [Bo (qd x).neg, sI .s (qd x).mag, sI .s (qd x).den] = rsC .s ((rowQ (j + 1) D').map qd) := by
            rw [rs_app, ← hDj, show (rowQ j D).map qd ++ [qd (D' j)] = ((rowQ j D) ++ [D' j]).map qd by simp]
            congr 2
            unfold rowQ
            rw [List.range_succ, List.map_append]
            congr 1
            exact List.map_congr_left fun i hi => by
              have := List.mem_range.1 hi
              rw [hD']; unfold fcD; rw [if_neg (by omega)]
          simp -dsimp(disch:=first|exact om|fail)only[go_sem,↓reduceIte,Nat.reduceEqDiff,Nat.reduceAdd,Nat.reduceSub,Nat.reduceMul,Nat.reduceLT,Nat.reduceLeDiff,reduceCtorEq,a_eq,a_neq,a_cast0,a_pred,a_app1,a_zero,Int.reduceToNat, hDl']
          have hDjl : ∀ i, i < j → D' i = D i := fun i hi => by rw [hD']; unfold fcD; rw [if_neg (by omega)]
          have hDl2 : ((rowQ (j + 1) D').map qd).length = j + 1 := by rw [List.length_map, rowQ_length]
          refine loopJ (fun i : Nat => j < i ∧ i ≤ n) (fun i => ⟨[(1, .ref 0 0), (2, .ref 1 0), (5, I n), (6, .ref 3 0), (7, .rsl 4 3 0 (j + 1)), (8, I j), (9, .ref 5 0), (12, I i)], fsF n j M (fcM M L D j i) D' (j + 1) ++ [⟨.own, T_impl_Rat, rdC .s (qd x)⟩]⟩) (fun i => n - i) (j + 1) ⟨by omega, by omega⟩ ?_ ?_
          · refine StI.ren [some 0, some 1, some 2, some 3, some 6, some 5] [[], [], [], [], [], []] lE (by decide) ?_ lW
            rw [fcM_zero]
            simp -dsimp(disch:=first|exact om|fail)only[go_sem,↓reduceIte,Nat.reduceEqDiff,Nat.reduceAdd,Nat.reduceSub,Nat.reduceMul,Nat.reduceLT,Nat.reduceLeDiff,reduceCtorEq,a_eq,a_neq,a_cast0,a_pred,a_app1,a_zero,Int.reduceToNat, hz1]
          rintro i ⟨hji, hin⟩
          by_cases hi : i < n
          · obtain ⟨Lm, hLm⟩ : ∃ Lm, Lm = fcM M L D j i := ⟨_, rfl⟩
            obtain ⟨z, hz⟩ : ∃ z, z = restQ M L D i j j := ⟨_, rfl⟩
            have hzz : restQ M Lm D' i j j = z := by
              rw [hz]
              refine restQ_congr fun b hb => ⟨?_, ?_, hDjl b hb⟩
              · rw [hLm]; unfold fcM; rw [if_neg (by omega)]
              · rw [hLm]; unfold fcM fcL
                split
                · rw [if_neg (by omega)]
                · first | rfl | rw [if_neg (by omega)]
            have hy : fcL M L D j i j = z.div x := by
              unfold fcL fcX
              rw [if_pos ⟨rfl, hji⟩, ← hz, ← hx]
            have hset : gridL n n (upd2 Lm i j (z.div x)) = gridL n n (fcM M L D j (i + 1)) := gridL_congr fun a b ha hb => by
              unfold upd2
              by_cases e : a = i ∧ b = j
              · rw [if_pos e, e.1, e.2]; unfold fcM; rw [if_pos (by omega), hy]
              · rw [if_neg e, hLm]; unfold fcM
                by_cases e2 : a < i
                · rw [if_pos e2, if_pos (by omega)]
                · rw [if_neg e2]
                  by_cases e3 : a < i + 1
                  · rw [if_pos e3]; unfold fcL
                    rw [if_neg (fun q => e ⟨by omega, q.1⟩)]
                  · rw [if_neg e3]
            have s1 := gcs_set (N := Lm) (x := z.div x) hi h
            rw [hset] at s1
            have e1 : (i : Int) * (n : Int) = ((i * n : Nat) : Int) := by rw [Int.natCast_mul]
            have e2 : ((i * n : Nat) : Int) + (j : Int) = ((i * n + j : Nat) : Int) := by omega
            have i1 := ix_lt hi h
            rw [← hLm]
            simp -dsimp(disch:=first|exact om|fail)only[go_sem,↓reduceIte,Nat.reduceEqDiff,Nat.reduceAdd,Nat.reduceSub,Nat.reduceMul,Nat.reduceLT,Nat.reduceLeDiff,reduceCtorEq,a_eq,a_neq,a_cast0,a_pred,a_app1,a_zero,Int.reduceToNat]
            refine callP (hat M i j hi h) at_s ?_
            simp -dsimp(disch:=first|exact om|fail)only[go_sem,↓reduceIte,Nat.reduceEqDiff,Nat.reduceAdd,Nat.reduceSub,Nat.reduceMul,Nat.reduceLT,Nat.reduceLeDiff,reduceCtorEq,a_eq,a_neq,a_cast0,a_pred,a_app1,a_zero,Int.reduceToNat]
            refine loopJ (fun b : Nat => b ≤ j) (fun b => ⟨[(1, .ref 0 0), (2, .ref 1 0), (5, I n), (6, .ref 3 0), (7, .rsl 4 3 0 (j + 1)), (8, I j), (9, .ref 5 0), (12, I i), (13, .ref 6 0), (14, I b)], fsF n j M Lm D' (j + 1) ++ [⟨.own, T_impl_Rat, rdC .s (qd x)⟩, ⟨.own, T_impl_Rat, rdC .s (qd (restQ M Lm D' i j b))⟩]⟩) (fun b => j - b) 0 (by omega) ?_ ?_
            · exact StI.ren [some 0, some 1, some 2, some 3, some 4, some 5, some 6] [[], [], [], [], [], [], []] lE (by decide) (by simp -dsimp(disch:=first|exact om|fail)only[go_sem,↓reduceIte,Nat.reduceEqDiff,Nat.reduceAdd,Nat.reduceSub,Nat.reduceMul,Nat.reduceLT,Nat.reduceLeDiff,reduceCtorEq,a_eq,a_neq,a_cast0,a_pred,a_app1,a_zero,Int.reduceToNat]; exact ⟨rfl, ⟨rfl, rfl⟩, rfl, rfl⟩) lW
            intro b hb
            by_cases h2 : b < j
            · obtain ⟨y, hy2⟩ : ∃ y, y = restQ M Lm D' i j b := ⟨_, rfl⟩
              have hs : restQ M Lm D' i j (b + 1) = y.sub (((Lm i b).mul (Lm j b)).mul (D' b)) := by rw [hy2]; rfl
              have hgx : ((rowQ (j + 1) D').map qd).getD b RD.zero = qd (D' b) := by rw [getD_map_qd (OM.mk (by rw [rowQ_length]; omega)), rowQ_get (by omega)]
              rw [← hy2]
              simp -dsimp(disch:=first|exact om|fail)only[go_sem,↓reduceIte,Nat.reduceEqDiff,Nat.reduceAdd,Nat.reduceSub,Nat.reduceMul,Nat.reduceLT,Nat.reduceLeDiff,reduceCtorEq,a_eq,a_neq,a_cast0,a_pred,a_app1,a_zero,Int.reduceToNat]
              refine callP (hat Lm i b hi (by omega)) (at_own rfl) ?_
              simp -dsimp(disch:=first|exact om|fail)only[go_sem,↓reduceIte,Nat.reduceEqDiff,Nat.reduceAdd,Nat.reduceSub,Nat.reduceMul,Nat.reduceLT,Nat.reduceLeDiff,reduceCtorEq,a_eq,a_neq,a_cast0,a_pred,a_app1,a_zero,Int.reduceToNat, hgx]
              refine callP (hat Lm j b h (by omega)) (at_own rfl) ?_
              simp -dsimp(disch:=first|exact om|fail)only[go_sem,↓reduceIte,Nat.reduceEqDiff,Nat.reduceAdd,Nat.reduceSub,Nat.reduceMul,Nat.reduceLT,Nat.reduceLeDiff,reduceCtorEq,a_eq,a_neq,a_cast0,a_pred,a_app1,a_zero,Int.reduceToNat, hgx]
              refine callP (l04Mul_c .s .s fls fls (Lm i b) (Lm j b)) lL ?_
              simp -dsimp(disch:=first|exact om|fail)only[go_sem,↓reduceIte,Nat.reduceEqDiff,Nat.reduceAdd,Nat.reduceSub,Nat.reduceMul,Nat.reduceLT,Nat.reduceLeDiff,reduceCtorEq,a_eq,a_neq,a_cast0,a_pred,a_app1,a_zero,Int.reduceToNat, hgx]
              refine callP (l04Mul_c .s .s fls fls ((Lm i b).mul (Lm j b)) (D' b)) lL ?_
              simp -dsimp(disch:=first|exact om|fail)only[go_sem,↓reduceIte,Nat.reduceEqDiff,Nat.reduceAdd,Nat.reduceSub,Nat.reduceMul,Nat.reduceLT,Nat.reduceLeDiff,reduceCtorEq,a_eq,a_neq,a_cast0,a_pred,a_app1,a_zero,Int.reduceToNat]
              refine callP (l05Sub_c .s .s fls fls y (((Lm i b).mul (Lm j b)).mul (D' b))) lL ?_
              rw [← hs]
              simp -dsimp(disch:=first|exact om|fail)only[go_sem,↓reduceIte,Nat.reduceEqDiff,Nat.reduceAdd,Nat.reduceSub,Nat.reduceMul,Nat.reduceLT,Nat.reduceLeDiff,reduceCtorEq,a_eq,a_neq,a_cast0,a_pred,a_app1,a_zero,Int.reduceToNat]
              exact ⟨b + 1, by omega, by omega, StI.ren [some 0, some 1, some 2, some 3, some 4, some 5, some 6] [[], [], [], [], [], [], []] lE (by decide) lW lW⟩
            · obtain rfl : b = j := by omega
              rw [hzz]
              have hgm := hgl Lm
              simp -dsimp(disch:=first|exact om|fail)only[go_sem,↓reduceIte,Nat.reduceEqDiff,Nat.reduceAdd,Nat.reduceSub,Nat.reduceMul,Nat.reduceLT,Nat.reduceLeDiff,reduceCtorEq,a_eq,a_neq,a_cast0,a_pred,a_app1,a_zero,Int.reduceToNat, e1, e2]
              refine callP (l05Div_c .s .s fls fls z x) lL ?_
              simp -dsimp(disch:=first|exact om|fail)only[go_sem,↓reduceIte,Nat.reduceEqDiff,Nat.reduceAdd,Nat.reduceSub,Nat.reduceMul,Nat.reduceLT,Nat.reduceLeDiff,reduceCtorEq,a_eq,a_neq,a_cast0,a_pred,a_app1,a_zero,Int.reduceToNat, e1, e2, s1]
              exact ⟨i + 1, by omega, by omega, StI.ren [some 0, some 1, some 2, some 3, some 4, some 5] [[], [], [], [], [], []] lE (by decide) lW lW⟩
          · obtain rfl : i = n := by omega
            have hfl : gridL i i (fcM M L D j i) = gridL i i (fcL M L D j) := gridL_congr fun a b ha hb => by unfold fcM; rw [if_pos ha]
            have hll : (gridL i i (fcL M L D j)).length ≤ 1048576 := by rw [gridL_length]; omega
            unfold fsF
            rw [hfl]
            simp -dsimp(disch:=first|exact om|fail)only[go_sem,↓reduceIte,Nat.reduceEqDiff,Nat.reduceAdd,Nat.reduceSub,Nat.reduceMul,Nat.reduceLT,Nat.reduceLeDiff,reduceCtorEq,a_eq,a_neq,a_cast0,a_pred,a_app1,a_zero,Int.reduceToNat]
            refine callP (l05Fine_c .b flb (gridL i i (fcL M L D j)) hll) (.cons _ _ _ _ (le_ownSB rfl (by rw [List.length_map, gridL_length])) .nil) ?_
            cases ha : allG (gridL i i (fcL M L D j))
            · rw [facN_none (facTo_none (k := j + 1) (by rw [hstep]; unfold facStep; exact if_neg (fun q => by rw [(fcL_all h hinv.l).2 q.2.2] at ha; cases ha)) (by omega))]
              simp -dsimp(disch:=first|exact om|fail)only[go_sem,↓reduceIte,Nat.reduceEqDiff,Nat.reduceAdd,Nat.reduceSub,Nat.reduceMul,Nat.reduceLT,Nat.reduceLeDiff,reduceCtorEq,a_eq,a_neq,a_cast0,a_pred,a_app1,a_zero,Int.reduceToNat]
            · have hfin : facTo i M (j + 1) = some ⟨fcL M L D j, D'⟩ := by
                rw [hstep, hD']; unfold facStep
                exact if_pos ⟨by unfold fcX; rw [← hx]; exact hxg, by unfold fcX; rw [← hx]; exact hxp, (fcL_all h hinv.l).1 ha⟩
              simp -dsimp(disch:=first|exact om|fail)only[go_sem,↓reduceIte,Nat.reduceEqDiff,Nat.reduceAdd,Nat.reduceSub,Nat.reduceMul,Nat.reduceLT,Nat.reduceLeDiff,reduceCtorEq,a_eq,a_neq,a_cast0,a_pred,a_app1,a_zero,Int.reduceToNat]
              exact ⟨(j + 1, ⟨fcL M L D j, D'⟩), ⟨by omega, hfin⟩, by show i - (j + 1) < i - j; omega, StI.ren [some 0, some 1, some 2, some 3, some 4] [[], [], [], [], []] lE (by decide) lW lW⟩
        · rw [hno (fun q => hxp q.2)]
          by_cases hxn : x.num < 0
          · have hz1 : (qd x).neg = true := by show zb x.num = true; unfold zb; exact decide_eq_true hxn
            simp -dsimp(disch:=first|exact om|fail)only[go_sem,↓reduceIte,Nat.reduceEqDiff,Nat.reduceAdd,Nat.reduceSub,Nat.reduceMul,Nat.reduceLT,Nat.reduceLeDiff,reduceCtorEq,a_eq,a_neq,a_cast0,a_pred,a_app1,a_zero,Int.reduceToNat, hz1]
          · have hz1 : (qd x).neg = false := by show zb x.num = false; unfold zb; exact decide_eq_false hxn
            have hz2 : x.num = 0 := by omega
            simp -dsimp(disch:=first|exact om|fail)only[go_sem,↓reduceIte,Nat.reduceEqDiff,Nat.reduceAdd,Nat.reduceSub,Nat.reduceMul,Nat.reduceLT,Nat.reduceLeDiff,reduceCtorEq,a_eq,a_neq,a_cast0,a_pred,a_app1,a_zero,Int.reduceToNat, hz1]
            refine callP (l05Nil_c .s fls x) (by simp -dsimp(disch:=first|exact om|fail)only[go_sem,↓reduceIte,Nat.reduceEqDiff,Nat.reduceAdd,Nat.reduceSub,Nat.reduceMul,Nat.reduceLT,Nat.reduceLeDiff,reduceCtorEq,a_eq,a_neq,a_cast0,a_pred,a_app1,a_zero,Int.reduceToNat, hz1]) ?_
            simp -dsimp(disch:=first|exact om|fail)only[go_sem,↓reduceIte,Nat.reduceEqDiff,Nat.reduceAdd,Nat.reduceSub,Nat.reduceMul,Nat.reduceLT,Nat.reduceLeDiff,reduceCtorEq,a_eq,a_neq,a_cast0,a_pred,a_app1,a_zero,Int.reduceToNat, hz1, hz2]
  · obtain rfl : k = n := by omega
    have hDl : ((rowQ k D).map qd).length = k := by rw [List.length_map, rowQ_length]
    rw [facN_some hst]
    simp -dsimp(disch:=first|exact om|fail)only[go_sem,↓reduceIte,Nat.reduceEqDiff,Nat.reduceAdd,Nat.reduceSub,Nat.reduceMul,Nat.reduceLT,Nat.reduceLeDiff,reduceCtorEq,a_eq,a_neq,a_cast0,a_pred,a_app1,a_zero,Int.reduceToNat]
    exact of_eq_true (le_frzR ⟨_, rfl⟩ (OM.mk (hgl _).symm) (OM.mk rfl))
theorem spec_Factor_c (m : MD) (hs : smallL m.cells) : PC PP F_spec_Factor [mtV .s m] (faS (facR m)) [] := by
  refine tx W_spec_Factor ke_spec_Factor [] (by kernel_rfl) ?_
  simp -dsimp(disch:=first|exact om|fail)only[go_sem,↓reduceIte,Nat.reduceEqDiff,Nat.reduceAdd,Nat.reduceSub,Nat.reduceMul,Nat.reduceLT,Nat.reduceLeDiff,reduceCtorEq,a_eq,a_neq,a_cast0,a_pred,a_app1,a_zero,Int.reduceToNat]
  refine callP (spec_IsSymmetric_c m .s fls hs) lL ?_
  cases hy : symM m
  · rw [show facR m = noF by unfold facR; rw [hy]; rfl]
    simp -dsimp(disch:=first|exact om|fail)only[go_sem,↓reduceIte,Nat.reduceEqDiff,Nat.reduceAdd,Nat.reduceSub,Nat.reduceMul,Nat.reduceLT,Nat.reduceLeDiff,reduceCtorEq,a_eq,a_neq,a_cast0,a_pred,a_app1,a_zero,Int.reduceToNat]
  · obtain ⟨ho, hrc⟩ := symM_ok hy
    obtain ⟨n, c, hg⟩ := MD.ok_good ho
    obtain rfl : n = c := by have := hg.er; have := hg.ec; omega
    have q := l08Factor_c m n hg hs
    rw [show facR m = facN n (m.at n) by unfold facR; rw [hy, hg.er]; rfl]
    generalize facN n (m.at n) = p at *
    obtain ⟨A, l, b⟩ := p
    simp -dsimp(disch:=first|exact om|fail)only[go_sem,↓reduceIte,Nat.reduceEqDiff,Nat.reduceAdd,Nat.reduceSub,Nat.reduceMul,Nat.reduceLT,Nat.reduceLeDiff,reduceCtorEq,a_eq,a_neq,a_cast0,a_pred,a_app1,a_zero,Int.reduceToNat]
    refine callP q lL ?_
    simp -dsimp(disch:=first|exact om|fail)only[go_sem,↓reduceIte,Nat.reduceEqDiff,Nat.reduceAdd,Nat.reduceSub,Nat.reduceMul,Nat.reduceLT,Nat.reduceLeDiff,reduceCtorEq,a_eq,a_neq,a_cast0,a_pred,a_app1,a_zero,Int.reduceToNat]
theorem spec_IsPositive_c (m : MD) (hs : smallL m.cells) : PC PP F_spec_IsPositive [mtV .s m] (Bo (facR m).2.2) [] := by
  refine tx W_spec_IsPositive ke_spec_IsPositive [] (by kernel_rfl) ?_
  simp -dsimp(disch:=first|exact om|fail)only[go_sem,↓reduceIte,Nat.reduceEqDiff,Nat.reduceAdd,Nat.reduceSub,Nat.reduceMul,Nat.reduceLT,Nat.reduceLeDiff,reduceCtorEq,a_eq,a_neq,a_cast0,a_pred,a_app1,a_zero,Int.reduceToNat]
  have q := spec_Factor_c m hs
  generalize facR m = p at *
  obtain ⟨A, l, b⟩ := p
  refine callP q lL ?_
  simp -dsimp(disch:=first|exact om|fail)only[go_sem,↓reduceIte,Nat.reduceEqDiff,Nat.reduceAdd,Nat.reduceSub,Nat.reduceMul,Nat.reduceLT,Nat.reduceLeDiff,reduceCtorEq,a_eq,a_neq,a_cast0,a_pred,a_app1,a_zero,Int.reduceToNat]
theorem impl_IsPositive_c (m : MD) (f : Fl) (hf : f ≠ .u) (hs : smallL m.cells) : PC PP F_impl_IsPositive [mtV f m] (Bo (facR m).2.2) [] := by
  refine tx W_impl_IsPositive ke_impl_IsPositive [] (by kernel_rfl) ?_
  simp -dsimp(disch:=first|exact om|fail)only[go_sem,↓reduceIte,Nat.reduceEqDiff,Nat.reduceAdd,Nat.reduceSub,Nat.reduceMul,Nat.reduceLT,Nat.reduceLeDiff,reduceCtorEq,a_eq,a_neq,a_cast0,a_pred,a_app1,a_zero,Int.reduceToNat]
  have q := impl_Factor_g m f hf hs
  generalize facR m = p at *
  obtain ⟨A, l, b⟩ := p
  refine callO' q lL lF ?_
  simp -dsimp(disch:=first|exact om|fail)only[go_sem,↓reduceIte,Nat.reduceEqDiff,Nat.reduceAdd,Nat.reduceSub,Nat.reduceMul,Nat.reduceLT,Nat.reduceLeDiff,reduceCtorEq,a_eq,a_neq,a_cast0,a_pred,a_app1,a_zero,Int.reduceToNat]
theorem facR_small (m : MD) : (smallL (facR m).1.cells ∧ szL (facR m).1.cells ≤ 100000) ∧ smallL ((facR m).2.1.map qd) ∧ szL ((facR m).2.1.map qd) ≤ 100000 := by
  have z : (smallL noF.1.cells ∧ szL noF.1.cells ≤ 100000) ∧ smallL (noF.2.1.map qd) ∧ szL (noF.2.1.map qd) ≤ 100000 := ⟨okl_small (by simp [MD.zero]) (by simp [MD.zero]), qdl_small (by simp)⟩
  unfold facR
  split
  · rename_i hy
    obtain ⟨ho, hrc⟩ := symM_ok hy
    obtain ⟨n, c, hg⟩ := MD.ok_good ho
    have h24 := hg.r24
    have e : m.rows.toNat = n := by rw [hg.er]; rfl
    have := rc_le h24 h24
    rw [e]
    unfold facN
    split
    · exact ⟨qdl_small (by rw [gridL_length]; omega), qdl_small (by rw [rowQ_length]; omega)⟩
    · exact z
  · exact z
end Go.Proofs.YtikmepdhpffdoaaGreat
