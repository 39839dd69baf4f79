/- part of the proof -/
import Derived.Test.YtikmepdhpffdoaaGreatTDe
import Derived.Test.YtikmepdhpffdoaaGreatTRl
namespace Go.Proofs.YtikmepdhpffdoaaGreat
open Go Go.RowKit
set_option maxRecDepth 100000
set_option maxHeartbeats 4000000
set_option linter.unusedVariables false
set_option linter.unusedSimpArgs false
@[go_sem ↓] theorem bslE_nine {P : Program} {e sz : Nat} {parts : List (Nat × V)} {H : List Ob} {K : V → List Ob → Prop} : bslE P (some (e, sz)) 9 parts H K = bslF P e sz 9 [(0, sz), (sz, sz), (2 * sz, sz), (3 * sz, sz), (4 * sz, sz), (5 * sz, sz), (6 * sz, sz), (7 * sz, sz), (8 * sz, sz)] (tzer P e) parts H K := by
  rw [bslE_pos (by decide)]
  simp [List.range, List.range.loop]
theorem sgZ_pos {z : Int} (h : 0 < z) : sgZ z = 1 := by
  unfold sgZ; split <;> (try split) <;> omega
theorem zero_grid (D : Nat → FQ) : gridL 3 3 (listM 3 [0, 0, 0, 0, 0, 0, 0, 0, 0]) = gridL 3 3 (dgM D 0) := gridL_congr fun i j hi hj => by
  obtain rfl | rfl | rfl : i = 0 ∨ i = 1 ∨ i = 2 := by omega
  all_goals (obtain rfl | rfl | rfl : j = 0 ∨ j = 1 ∨ j = 2 := by omega)
  all_goals rfl
theorem FnFactors_s (l : List Int) : PC PP F_laws_FnFactors [byV .s l] (Bo true) [] := by
  refine txe W_laws_FnFactors ke_laws_FnFactors [] [] [] (by kernel_rfl) ?_
  by_cases hl : l.length ≤ 1048576
  · have qm := MakeSymmetric_m l hl
    have hg := symMD_good l
    have hms := symMD_small l
    have hsy := symMD_sym l
    obtain ⟨L, D, A, f1, gL, hD, f2, hA, f3⟩ := fac_mul l
    obtain ⟨g1, g2⟩ := quad_facts l (CS.at l 40)
    obtain ⟨h1, h2⟩ := part_facts l
    have q1 := impl_Factor_c (symMD l) hms
    rw [f1] at q1
    have q2 := impl_IsPositive_c (symMD l) .s fls hms
    rw [f1] at q2
    have q3 := impl_IsSymmetric_c (symMD l) .s fls hms
    rw [hsy] at q3
    have qsD : ∀ k, k < 3 → PC PP F_impl_RatSign [rV .s (qd (D k))] (I 1) [] := fun k hk => by
      have q := impl_RatSign_c (D k)
      rw [sgZ_pos (hD k hk)] at q; exact q
    have gZ0 : allG (gridL 3 3 (dgM D 0)) = true := gridL_all fun i j _ _ => by
      unfold dgM; rw [if_neg (by omega)]
      exact (FV.ofInt (z := 0) (k := 0) (by decide) (by decide)).good
    have q4 : GC PP F_impl_MatrixOf [I 3, I 3, .sl .s 1 9 [I 0, I 0, I 0, I 0, I 0, I 0, I 0, I 0, I 0]] [] (.agg [I 3, I 3, .rsl 0 3 0 9]) [⟨.own, T_impl_Rat, rsC .s ((gridL 3 3 (dgM D 0)).map qd)⟩] := by
      have q := impl_MatrixOf_g 3 3 (by omega) (by omega) [0, 0, 0, 0, 0, 0, 0, 0, 0] rfl (by decide)
      have e : (cloQ 3 3 (listM 3 [0, 0, 0, 0, 0, 0, 0, 0, 0])).1 = ⟨3, 3, (gridL 3 3 (dgM D 0)).map qd⟩ := by
        rw [cloQ_done, doneM, zero_grid D, if_pos gZ0]; rfl
      rw [e] at q
      have el : ((gridL 3 3 (dgM D 0)).map qd).length = 9 := by rw [List.length_map, gridL_length]
      simp only [el] at q
      exact q
    clear gZ0
    obtain ⟨x, hx⟩ : ∃ x, x = rowQ 3 (nX l (CS.at l 40)) := ⟨_, rfl⟩
    have hxl : x.length = 3 := by rw [hx, rowQ_length]
    have qv : PC PP F_spec_MakeVector [byV .s l, I 40, I 3] (sR .s (x.map qd)) [] := by
      have q := MakeVector_s l hl 40 3 (by omega) (by omega)
      rw [← hx] at q
      rw [show sR .s (x.map qd) = .sl .s 3 3 (rsC .s (x.map qd)) by show V.sl .s 3 (x.map qd).length _ = _; rw [List.length_map, hxl]]
      exact q
    rw [← hx] at g1 g2
    have hxs : smallL (x.map qd) := (qdl_small (by omega)).1
    have hLs : smallL (gM 3 3 L).cells := grid_small (by omega) (by omega)
    have hDs : smallL (gM 3 3 (dgM D 3)).cells := grid_small (by omega) (by omega)
    have q5 := impl_Multiply_sb (gM 3 3 L) (gM 3 3 (dgM D 3)) hLs hDs
    rw [f2] at q5
    have q6 := impl_Transpose_c (gM 3 3 L) .s fls hLs
    have q7 := impl_Multiply_c A (trM (gM 3 3 L)) hA (trM_small hLs)
    rw [f3] at q7
    have q8 := impl_QuadraticForm_c (symMD l) (x.map qd) hms hxs
    have q9 := impl_Submatrix_c (symMD l) [0, 2] hms (by decide)
    rw [h1] at q9
    have hps : smallL (gM 2 2 fun i j => symG l 3 (sel2 i) (sel2 j)).cells := grid_small (by omega) (by omega)
    have q14 := impl_IsPositive_c (gM 2 2 fun i j => symG l 3 (sel2 i) (sel2 j)) .s fls hps
    rw [h2] at q14
    have q10 := impl_EqualMatrices_c .s .s fls fls (symMD l) (symMD l) hms.fit hms.fit
    rw [decide_eq_true rfl] at q10
    have q11 := impl_RatSign_c (quadQ (symMD l) (x.map qd))
    have q12 := impl_ZeroVector_c 3 (by omega)
    have q13 := impl_EqualVectors_c .s .s fls fls (x.map qd) (x.map qd) hxs.fit hxs.fit
    rw [decide_eq_true rfl] at q13
    unfold toS at q8
    rw [g1] at q8
    replace q12 : PC PP F_impl_ZeroVector [I 3] (sR .s ((rowQ 3 fun _ => FQ.ofInt 0).map qd)) [] := q12
    replace q9 : PC PP F_impl_Submatrix [mtV .s (symMD l), .sl .s 1 2 [I 0, I 2]] (moS (gM 2 2 fun i j => symG l 3 (sel2 i) (sel2 j), true)) [] := q9
    have hdl : ((rowQ 3 D).map qd).length = 3 := by rw [List.length_map, rowQ_length]
    have hdg : ∀ k, k < 3 → ((rowQ 3 D).map qd).getD k RD.zero = qd (D k) := fun k hk => by rw [getD_map_qd (OM.mk (by rw [rowQ_length]; exact hk)), rowQ_get hk]
    have hda : sR .s ((rowQ 3 D).map qd) = .sl .s 3 3 (rsC .s ((rowQ 3 D).map qd)) := by
      show V.sl .s 3 ((rowQ 3 D).map qd).length _ = _
      rw [hdl]
    have hlr : (gM 3 3 L).rows = 3 := rfl
    have hgl : ∀ k, ((gridL 3 3 (dgM D k)).map qd).length = 9 := fun k => by rw [List.length_map, gridL_length]
    have hst : ∀ k, k < 3 → (rsC .s ((gridL 3 3 (dgM D k)).map qd)).take ((k * 3 + k) * 3) ++ [Bo (qd (D k)).neg, sI .s (qd (D k)).mag, sI .s (qd (D k)).den] ++ (rsC .s ((gridL 3 3 (dgM D k)).map qd)).drop ((k * 3 + k) * 3 + 3) = rsC .s ((gridL 3 3 (dgM D (k + 1))).map qd) := fun k hk => by
      rw [gcs_set hk hk, dgM_succ]
    unfold faS at q1
    rw [hda] at q1
    replace q5 : PC PP F_impl_Multiply [mtV .s (gM 3 3 L), .agg [I 3, I 3, sR .b ((gridL 3 3 (dgM D 3)).map qd)]] (moS (A, true)) [] := q5
    clear f1 f2 f3 h1 h2 hda hsy hLs hDs gL hms hg hps
    have hLv : mtV .s (gM 3 3 L) = .agg [I 3, I (gM 3 3 L).cols, sR .s (gM 3 3 L).cells] := rfl
    rw [hLv] at q5 q6
    clear hLv
    generalize gM 3 3 L = Lm at *
    generalize trM Lm = Lt at *
    generalize symMD l = m at *
    generalize gM 2 2 (fun i j => symG l 3 (sel2 i) (sel2 j)) = pt at *
    generalize (rowQ 3 D).map qd = d at *
    generalize quadQ m (x.map qd) = Q at *
    have hG : ∀ k, (gridL 3 3 (dgM D k)).map qd = (fun k => (gridL 3 3 (dgM D k)).map qd) k := fun k => rfl
    generalize (fun k => (gridL 3 3 (dgM D k)).map qd) = G at hG
    simp only [hG] at *
    simp -dsimp(disch:=first|exact om|fail)only[go_sem,↓reduceIte,Nat.reduceEqDiff,Nat.reduceAdd,Nat.reduceSub,Nat.reduceMul,Nat.reduceLT,Nat.reduceLeDiff,reduceCtorEq,a_eq,a_neq,a_cast0,a_pred,a_app1,a_zero,Int.reduceToNat]
    refine callP qm lL ?_
    simp -dsimp(disch:=first|exact om|fail)only[go_sem,↓reduceIte,Nat.reduceEqDiff,Nat.reduceAdd,Nat.reduceSub,Nat.reduceMul,Nat.reduceLT,Nat.reduceLeDiff,reduceCtorEq,a_eq,a_neq,a_cast0,a_pred,a_app1,a_zero,Int.reduceToNat]
    refine callP q1 lL ?_
    simp -dsimp(disch:=first|exact om|fail)only[go_sem,↓reduceIte,Nat.reduceEqDiff,Nat.reduceAdd,Nat.reduceSub,Nat.reduceMul,Nat.reduceLT,Nat.reduceLeDiff,reduceCtorEq,a_eq,a_neq,a_cast0,a_pred,a_app1,a_zero,Int.reduceToNat, hdl, hlr]
    refine callP q2 lL ?_
    simp -dsimp(disch:=first|exact om|fail)only[go_sem,↓reduceIte,Nat.reduceEqDiff,Nat.reduceAdd,Nat.reduceSub,Nat.reduceMul,Nat.reduceLT,Nat.reduceLeDiff,reduceCtorEq,a_eq,a_neq,a_cast0,a_pred,a_app1,a_zero,Int.reduceToNat]
    refine callP q3 lL ?_
    simp -dsimp(disch:=first|exact om|fail)only[go_sem,↓reduceIte,Nat.reduceEqDiff,Nat.reduceAdd,Nat.reduceSub,Nat.reduceMul,Nat.reduceLT,Nat.reduceLeDiff,reduceCtorEq,a_eq,a_neq,a_cast0,a_pred,a_app1,a_zero,Int.reduceToNat]
    refine callO' q4 (.cons _ _ _ _ (.lit _) (.cons _ _ _ _ (.lit _) (.cons _ _ _ _ (.sl _ _ _ _ _ _ (show FlLe .b .s .s from Or.inl rfl) (LeL.lits (l := [0, 0, 0, 0, 0, 0, 0, 0, 0]))) .nil))) lF ?_
    simp -dsimp(disch:=first|exact om|fail)only[go_sem,↓reduceIte,Nat.reduceEqDiff,Nat.reduceAdd,Nat.reduceSub,Nat.reduceMul,Nat.reduceLT,Nat.reduceLeDiff,reduceCtorEq,a_eq,a_neq,a_cast0,a_pred,a_app1,a_zero,Int.reduceToNat, hdl]
    refine loopJ (fun k : Nat => k ≤ 3) (fun k => ⟨[(0, byV .s l), (3, .ref 0 0), (4, .ref 1 0), (7, .ref 3 0), (58, .sl .s 3 3 (rsC .s d)), (59, I 3), (60, I k)], [⟨.own, T_impl_Matrix, [I m.rows, I m.cols, sR .s m.cells]⟩, ⟨.own, T_impl_Matrix, [I 3, I Lm.cols, sR .s Lm.cells]⟩, ⟨.own, T_impl_Rat, rsC .s (G k)⟩, ⟨.own, T_impl_Matrix, [I 3, I 3, .rsl 2 3 0 9]⟩]⟩) (fun k => 3 - k) 0 (by omega) ?_ ?_
    · exact StI.ren [some 0, some 1, some 2, some 3] [[], [], [], []] lE (by decide) lW lW
    intro k hk
    by_cases h : k < 3
    · have r1 := qsD k h
      have r2 := hdg k h
      have r3 := hst k h
      have r4 := hgl k
      have e1 : 4 * (k : Int) = ((k * 3 + k : Nat) : Int) := by omega
      have hp : k * 3 + k < 9 := by omega
      generalize hL' : G (k + 1) = L' at *
      generalize G k = L0 at *
      generalize hpe : k * 3 + k = p at *
      simp -dsimp(disch:=first|exact om|fail)only[go_sem,↓reduceIte,Nat.reduceEqDiff,Nat.reduceAdd,Nat.reduceSub,Nat.reduceMul,Nat.reduceLT,Nat.reduceLeDiff,reduceCtorEq,a_eq,a_neq,a_cast0,a_pred,a_app1,a_zero,Int.reduceToNat, e1, r2]
      refine callP r1 lL ?_
      simp -dsimp(disch:=first|exact om|fail)only[go_sem,↓reduceIte,Nat.reduceEqDiff,Nat.reduceAdd,Nat.reduceSub,Nat.reduceMul,Nat.reduceLT,Nat.reduceLeDiff,reduceCtorEq,a_eq,a_neq,a_cast0,a_pred,a_app1,a_zero,Int.reduceToNat, r3]
      exact ⟨k + 1, by omega, by omega, StI.ren [some 0, some 1, some 2, some 3] [[], [], [], []] lE (by decide) (by simp -dsimp(disch:=first|exact om|fail)only[go_sem,↓reduceIte,Nat.reduceEqDiff,Nat.reduceAdd,Nat.reduceSub,Nat.reduceMul,Nat.reduceLT,Nat.reduceLeDiff,reduceCtorEq,a_eq,a_neq,a_cast0,a_pred,a_app1,a_zero,Int.reduceToNat, hL']) lW⟩
    · obtain rfl : k = 3 := by omega
      simp -dsimp(disch:=first|exact om|fail)only[go_sem,↓reduceIte,Nat.reduceEqDiff,Nat.reduceAdd,Nat.reduceSub,Nat.reduceMul,Nat.reduceLT,Nat.reduceLeDiff,reduceCtorEq,a_eq,a_neq,a_cast0,a_pred,a_app1,a_zero,Int.reduceToNat]
      refine callP q5 (.cons _ _ _ _ ?_ (.cons _ _ _ _ (.agg _ _ (.cons _ _ _ _ (.lit _) (.cons _ _ _ _ (.lit _) (.cons _ _ _ _ (le_ownSB rfl (hgl 3)) .nil)))) .nil)) ?_
      · simp -dsimp(disch:=first|exact om|fail)only[go_sem,↓reduceIte,Nat.reduceEqDiff,Nat.reduceAdd,Nat.reduceSub,Nat.reduceMul,Nat.reduceLT,Nat.reduceLeDiff,reduceCtorEq,a_eq,a_neq,a_cast0,a_pred,a_app1,a_zero,Int.reduceToNat]
      simp -dsimp(disch:=first|exact om|fail)only[go_sem,↓reduceIte,Nat.reduceEqDiff,Nat.reduceAdd,Nat.reduceSub,Nat.reduceMul,Nat.reduceLT,Nat.reduceLeDiff,reduceCtorEq,a_eq,a_neq,a_cast0,a_pred,a_app1,a_zero,Int.reduceToNat]
      refine callP q6 lL ?_
      simp -dsimp(disch:=first|exact om|fail)only[go_sem,↓reduceIte,Nat.reduceEqDiff,Nat.reduceAdd,Nat.reduceSub,Nat.reduceMul,Nat.reduceLT,Nat.reduceLeDiff,reduceCtorEq,a_eq,a_neq,a_cast0,a_pred,a_app1,a_zero,Int.reduceToNat]
      refine callP q7 lL ?_
      simp -dsimp(disch:=first|exact om|fail)only[go_sem,↓reduceIte,Nat.reduceEqDiff,Nat.reduceAdd,Nat.reduceSub,Nat.reduceMul,Nat.reduceLT,Nat.reduceLeDiff,reduceCtorEq,a_eq,a_neq,a_cast0,a_pred,a_app1,a_zero,Int.reduceToNat]
      refine callP qv lL ?_
      simp -dsimp(disch:=first|exact om|fail)only[go_sem,↓reduceIte,Nat.reduceEqDiff,Nat.reduceAdd,Nat.reduceSub,Nat.reduceMul,Nat.reduceLT,Nat.reduceLeDiff,reduceCtorEq,a_eq,a_neq,a_cast0,a_pred,a_app1,a_zero,Int.reduceToNat]
      refine callP q8 lL ?_
      simp -dsimp(disch:=first|exact om|fail)only[go_sem,↓reduceIte,Nat.reduceEqDiff,Nat.reduceAdd,Nat.reduceSub,Nat.reduceMul,Nat.reduceLT,Nat.reduceLeDiff,reduceCtorEq,a_eq,a_neq,a_cast0,a_pred,a_app1,a_zero,Int.reduceToNat]
      refine callP q9 (.cons _ _ _ _ ?_ (.cons _ _ _ _ (.sl _ _ _ _ _ _ (show FlLe .b .s .s from Or.inl rfl) (LeL.lits (l := [0, 2]))) .nil)) ?_
      · simp -dsimp(disch:=first|exact om|fail)only[go_sem,↓reduceIte,Nat.reduceEqDiff,Nat.reduceAdd,Nat.reduceSub,Nat.reduceMul,Nat.reduceLT,Nat.reduceLeDiff,reduceCtorEq,a_eq,a_neq,a_cast0,a_pred,a_app1,a_zero,Int.reduceToNat]
      simp -dsimp(disch:=first|exact om|fail)only[go_sem,↓reduceIte,Nat.reduceEqDiff,Nat.reduceAdd,Nat.reduceSub,Nat.reduceMul,Nat.reduceLT,Nat.reduceLeDiff,reduceCtorEq,a_eq,a_neq,a_cast0,a_pred,a_app1,a_zero,Int.reduceToNat]
      refine callP q10 lL ?_
      simp -dsimp(disch:=first|exact om|fail)only[go_sem,↓reduceIte,Nat.reduceEqDiff,Nat.reduceAdd,Nat.reduceSub,Nat.reduceMul,Nat.reduceLT,Nat.reduceLeDiff,reduceCtorEq,a_eq,a_neq,a_cast0,a_pred,a_app1,a_zero,Int.reduceToNat]
      refine callP q11 lL ?_
      rcases g2 with g2 | g2
      · rw [sgZ_pos g2]
        simp -dsimp(disch:=first|exact om|fail)only[go_sem,↓reduceIte,Nat.reduceEqDiff,Nat.reduceAdd,Nat.reduceSub,Nat.reduceMul,Nat.reduceLT,Nat.reduceLeDiff,reduceCtorEq,a_eq,a_neq,a_cast0,a_pred,a_app1,a_zero,Int.reduceToNat]
        refine callP q14 lL ?_
        simp -dsimp(disch:=first|exact om|fail)only[go_sem,↓reduceIte,Nat.reduceEqDiff,Nat.reduceAdd,Nat.reduceSub,Nat.reduceMul,Nat.reduceLT,Nat.reduceLeDiff,reduceCtorEq,a_eq,a_neq,a_cast0,a_pred,a_app1,a_zero,Int.reduceToNat]
      · rw [← g2] at q12
        by_cases hq : 0 < sgZ Q.num
        · simp -dsimp(disch:=first|exact om|fail)only[go_sem,↓reduceIte,Nat.reduceEqDiff,Nat.reduceAdd,Nat.reduceSub,Nat.reduceMul,Nat.reduceLT,Nat.reduceLeDiff,reduceCtorEq,a_eq,a_neq,a_cast0,a_pred,a_app1,a_zero,Int.reduceToNat]
          refine callP q14 lL ?_
          simp -dsimp(disch:=first|exact om|fail)only[go_sem,↓reduceIte,Nat.reduceEqDiff,Nat.reduceAdd,Nat.reduceSub,Nat.reduceMul,Nat.reduceLT,Nat.reduceLeDiff,reduceCtorEq,a_eq,a_neq,a_cast0,a_pred,a_app1,a_zero,Int.reduceToNat]
        · simp -dsimp(disch:=first|exact om|fail)only[go_sem,↓reduceIte,Nat.reduceEqDiff,Nat.reduceAdd,Nat.reduceSub,Nat.reduceMul,Nat.reduceLT,Nat.reduceLeDiff,reduceCtorEq,a_eq,a_neq,a_cast0,a_pred,a_app1,a_zero,Int.reduceToNat]
          refine callP q12 lL ?_
          simp -dsimp(disch:=first|exact om|fail)only[go_sem,↓reduceIte,Nat.reduceEqDiff,Nat.reduceAdd,Nat.reduceSub,Nat.reduceMul,Nat.reduceLT,Nat.reduceLeDiff,reduceCtorEq,a_eq,a_neq,a_cast0,a_pred,a_app1,a_zero,Int.reduceToNat]
          refine callP q13 lL ?_
          simp -dsimp(disch:=first|exact om|fail)only[go_sem,↓reduceIte,Nat.reduceEqDiff,Nat.reduceAdd,Nat.reduceSub,Nat.reduceMul,Nat.reduceLT,Nat.reduceLeDiff,reduceCtorEq,a_eq,a_neq,a_cast0,a_pred,a_app1,a_zero,Int.reduceToNat]
          refine callP q14 lL ?_
          simp -dsimp(disch:=first|exact om|fail)only[go_sem,↓reduceIte,Nat.reduceEqDiff,Nat.reduceAdd,Nat.reduceSub,Nat.reduceMul,Nat.reduceLT,Nat.reduceLeDiff,reduceCtorEq,a_eq,a_neq,a_cast0,a_pred,a_app1,a_zero,Int.reduceToNat]
  · simp -dsimp(disch:=first|exact om|fail)only[go_sem,↓reduceIte,Nat.reduceEqDiff,Nat.reduceAdd,Nat.reduceSub,Nat.reduceMul,Nat.reduceLT,Nat.reduceLeDiff,reduceCtorEq,a_eq,a_neq,a_cast0,a_pred,a_app1,a_zero,Int.reduceToNat]
theorem FnFactors_c (f : Fl) (hf : f ≠ .u) (l : List Int) (hl : l.length ≤ 9223372036854775807) : PC PP F_laws_FnFactors [byV f l] (Bo true) [] := by_lent (FnFactors_s l) f hf
end Go.Proofs.YtikmepdhpffdoaaGreat
