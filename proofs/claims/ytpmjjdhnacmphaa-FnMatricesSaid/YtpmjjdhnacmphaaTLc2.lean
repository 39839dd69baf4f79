/- part of the proof -/
import Derived.Test.YtpmjjdhnacmphaaTLc0
import Derived.Test.YtpmjjdhnacmphaaTRm
import Derived.Test.YtpmjjdhnacmphaaTDd
namespace Go.Proofs.Ytpmjjdhnacmphaa
open Go Go.RowKit
set_option maxRecDepth 100000
set_option maxHeartbeats 4000000
set_option linter.unusedVariables false
set_option linter.unusedSimpArgs false
theorem row_last {m : MD} {c : Nat} (hg : m.Good 2 c) : (rowQ c (m.at c 1)).map qd = m.cells.drop c := by
  have hl := hg.len
  refine List.ext_getElem (by simp [rowQ_length, hl]; omega) fun k h1 h2 => ?_
  rw [List.length_map, rowQ_length] at h1
  have e := (MD.at_ok hg (i := 1) (k := k) (by omega) h1).2
  rw [Nat.one_mul, List.getD_eq_getElem?_getD, List.getElem?_eq_getElem (by omega), Option.getD_some] at e
  simp [rowQ, e]
theorem smallL.drop {l : List RD} (h : smallL l) (n : Nat) : smallL (l.drop n) := ⟨by have := h.1; rw [List.length_drop]; omega, fun x hx => h.2 x (List.mem_of_mem_drop hx)⟩
theorem FnMatrices_s (l : List Int) : PC PP F_laws_FnMatrices [byV .s l] (Bo true) [] := by
  refine txe W_laws_FnMatrices ke_laws_FnMatrices [] [] [] (by kernel_rfl) ?_
  by_cases hl : l.length ≤ 1048576
  · obtain ⟨a, ha⟩ : ∃ m : MD, m = ⟨2, 3, (gridL 2 3 (drawM l 1 2 3)).map qd⟩ := ⟨_, rfl⟩
    obtain ⟨b, hb⟩ : ∃ m : MD, m = ⟨3, 2, (gridL 3 2 (drawM l 20 3 2)).map qd⟩ := ⟨_, rfl⟩
    obtain ⟨x, hx⟩ : ∃ x, x = rowQ 2 (nX l (CS.at l 40)) := ⟨_, rfl⟩
    have qa : PC PP F_spec_MakeMatrix [byV .s l, I 1, I 2, I 3] (mtV .s a) [] := by
      have q := MakeMatrix_s l hl 1 2 3 (by omega) (by omega) (by omega)
      rw [ha, show mtV .s (⟨2, 3, (gridL 2 3 (drawM l 1 2 3)).map qd⟩ : MD) = _ from mt_grid (n := 2) (c := 3)]; exact q
    have qb : PC PP F_spec_MakeMatrix [byV .s l, I 20, I 3, I 2] (mtV .s b) [] := by
      have q := MakeMatrix_s l hl 20 3 2 (by omega) (by omega) (by omega)
      rw [hb, show mtV .s (⟨3, 2, (gridL 3 2 (drawM l 20 3 2)).map qd⟩ : MD) = _ from mt_grid (n := 3) (c := 2)]; exact q
    have hxl : x.length = 2 := by rw [hx, rowQ_length]
    have qv : PC PP F_spec_MakeVector [byV .s l, I 40, I 2] (sR .s (x.map qd)) [] := by
      have q := MakeVector_s l hl 40 2 (by omega) (by omega)
      rw [← hx] at q
      rw [show sR .s (x.map qd) = .sl .s 3 2 (rsC .s (x.map qd)) by show V.sl .s 3 (x.map qd).length _ = _; rw [List.length_map, hxl]]
      exact q
    have hav : ∀ i j, i < 2 → j < 3 → FV (drawM l 1 2 3 i j) (drawM l 1 2 3 i j).val 5 := fun i j _ _ => nX_val l _ _
    have hbv : ∀ i j, i < 3 → j < 2 → FV (drawM l 20 3 2 i j) (drawM l 20 3 2 i j).val 5 := fun i j _ _ => nX_val l _ _
    have ga : a.Good 2 3 := by rw [ha]; exact grid_good (n := 2) (c := 3) (by omega) (by omega) fun i j hi hj => (hav i j hi hj).good
    have gb : b.Good 3 2 := by rw [hb]; exact grid_good (n := 3) (c := 2) (by omega) (by omega) fun i j hi hj => (hbv i j hi hj).good
    have has : smallL a.cells := by rw [ha]; exact grid_small (by omega) (by omega)
    have hbs : smallL b.cells := by rw [hb]; exact grid_small (by omega) (by omega)
    have hxs : smallL (x.map qd) := (qdl_small (by omega)).1
    obtain ⟨p, t, y, z, f1, f2, f3, f4, f5, f6, f7, f8, f9, f10⟩ := mat_facts a b ga gb (fun i j => (drawM l 1 2 3 i j).val) (fun i j => (drawM l 20 3 2 i j).val) (fun i => (nX l (CS.at l 40) i).val) (fun i j hi hj => by
      have : a.at 3 i j = drawM l 1 2 3 i j := by rw [ha]; exact grid_at (n := 2) (c := 3) hi hj
      rw [this]; exact hav i j hi hj) (fun i j hi hj => by
      have : b.at 2 i j = drawM l 20 3 2 i j := by rw [hb]; exact grid_at (n := 3) (c := 2) hi hj
      rw [this]; exact hbv i j hi hj) x hxl (fun i hi => by rw [hx, rowQ_get hi]; exact nX_val l _ _)
    clear ha hb hx hav hbv
    have zs : smallL (z.map qd) := (qdl_small (by omega)).1
    have ys : smallL (y.map qd) := (qdl_small (by omega)).1
    have q1 := impl_Multiply_c a b has hbs
    have q2 := impl_Transpose_c b .s fls hbs
    have q3 := impl_Transpose_c a .s fls has
    have q4 := impl_Multiply_c (trM b) (trM a) (trM_small hbs) (trM_small has)
    have q5 := impl_ApplyMatrix_c p (x.map qd) f3 hxs
    have q6 := impl_ApplyMatrix_c b (x.map qd) hbs hxs
    have q7 := impl_ApplyMatrix_c a (y.map qd) has ys
    have q8 := impl_Transpose_c p .s fls f3
    have ts : smallL (trM p).cells := trM_small f3
    rw [f1] at q1; rw [f4] at q4; rw [f6] at q5; rw [f8] at q6; rw [f10] at q7; rw [f5] at q8 ts
    have q9 := impl_EqualVectors_c .s .s fls fls (z.map qd) (z.map qd) zs.fit zs.fit
    rw [decide_eq_true rfl] at q9
    have q10 := impl_EqualMatrices_c .s .s fls fls t t ts.fit ts.fit
    rw [decide_eq_true rfl] at q10
    have q11 := impl_MatrixOk_c p .s fls f3
    rw [f2] at q11
    have q12 := impl_RowOf_c a .s fls 2 3 1 ga has (by omega)
    rw [row_last ga] at q12
    have q13 := impl_CellAt_c a .s fls 2 3 1 2 ga has (by omega) (by omega)
    have d3 : smallL (a.cells.drop 3) := has.drop 3
    have q14 := impl_EqualVectors_c .s .s fls fls (a.cells.drop 3) (a.cells.drop 3) d3.fit d3.fit
    rw [decide_eq_true rfl] at q14
    have c5 : (a.cells.getD 5 RD.zero).small := has.getD (by rw [ga.len]; omega)
    have q15 := impl_RatEqual_c .s .s fls fls (a.cells.getD 5 RD.zero) (a.cells.getD 5 RD.zero) ⟨by have := c5.1; omega, by have := c5.2; omega⟩ ⟨by have := c5.1; omega, by have := c5.2; omega⟩
    rw [decide_eq_true rfl] at q15
    replace q13 : PC PP F_impl_CellAt [mtV .s a, I 1, I 2] (rV .s (a.cells.getD 5 RD.zero)) [] := q13
    replace q12 : PC PP F_impl_RowOf [mtV .s a, I 1] (sR .s (a.cells.drop 3)) [] := q12
    have al : a.cells.length = 6 := ga.len
    have ed : (rsC .s a.cells).drop 9 = rsC .s (a.cells.drop 3) := rsC_drop (i := 3)
    have et : (rsC .s (a.cells.drop 3)).take 9 = rsC .s (a.cells.drop 3) := List.take_of_length_le (by rw [rsC_length, List.length_drop]; omega)
    have ec : ((rsC .s a.cells).drop 15).take 3 = [Bo (a.cells.getD 5 RD.zero).neg, sI .s (a.cells.getD 5 RD.zero).mag, sI .s (a.cells.getD 5 RD.zero).den] := by
      have h5 : 5 < a.cells.length := by omega
      rw [List.getD_eq_getElem?_getD, List.getElem?_eq_getElem h5, Option.getD_some]; exact rs_take h5
    have hD : sR .s (a.cells.drop 3) = .sl .s 3 3 (rsC .s (a.cells.drop 3)) := by
      show V.sl .s 3 (a.cells.drop 3).length _ = _
      rw [List.length_drop, al]
    rw [hD] at q12 q14
    generalize trM a = ta at *
    generalize trM b = tb at *
    simp -dsimp(disch:=first|exact om|fail)only[go_sem,↓reduceIte,Nat.reduceEqDiff,Nat.reduceAdd,Nat.reduceSub,Nat.reduceMul,Nat.reduceLT,Nat.reduceLeDiff,reduceCtorEq,a_eq,a_neq,a_cast0,a_pred,a_app1,a_zero,Int.reduceToNat]
    refine callP qa lL ?_
    simp -dsimp(disch:=first|exact om|fail)only[go_sem,↓reduceIte,Nat.reduceEqDiff,Nat.reduceAdd,Nat.reduceSub,Nat.reduceMul,Nat.reduceLT,Nat.reduceLeDiff,reduceCtorEq,a_eq,a_neq,a_cast0,a_pred,a_app1,a_zero,Int.reduceToNat]
    refine callP qb lL ?_
    simp -dsimp(disch:=first|exact om|fail)only[go_sem,↓reduceIte,Nat.reduceEqDiff,Nat.reduceAdd,Nat.reduceSub,Nat.reduceMul,Nat.reduceLT,Nat.reduceLeDiff,reduceCtorEq,a_eq,a_neq,a_cast0,a_pred,a_app1,a_zero,Int.reduceToNat]
    refine callP qv lL ?_
    simp -dsimp(disch:=first|exact om|fail)only[go_sem,↓reduceIte,Nat.reduceEqDiff,Nat.reduceAdd,Nat.reduceSub,Nat.reduceMul,Nat.reduceLT,Nat.reduceLeDiff,reduceCtorEq,a_eq,a_neq,a_cast0,a_pred,a_app1,a_zero,Int.reduceToNat]
    refine callP q1 lL ?_
    simp -dsimp(disch:=first|exact om|fail)only[go_sem,↓reduceIte,Nat.reduceEqDiff,Nat.reduceAdd,Nat.reduceSub,Nat.reduceMul,Nat.reduceLT,Nat.reduceLeDiff,reduceCtorEq,a_eq,a_neq,a_cast0,a_pred,a_app1,a_zero,Int.reduceToNat]
    refine callP q2 lL ?_
    simp -dsimp(disch:=first|exact om|fail)only[go_sem,↓reduceIte,Nat.reduceEqDiff,Nat.reduceAdd,Nat.reduceSub,Nat.reduceMul,Nat.reduceLT,Nat.reduceLeDiff,reduceCtorEq,a_eq,a_neq,a_cast0,a_pred,a_app1,a_zero,Int.reduceToNat]
    refine callP q3 lL ?_
    simp -dsimp(disch:=first|exact om|fail)only[go_sem,↓reduceIte,Nat.reduceEqDiff,Nat.reduceAdd,Nat.reduceSub,Nat.reduceMul,Nat.reduceLT,Nat.reduceLeDiff,reduceCtorEq,a_eq,a_neq,a_cast0,a_pred,a_app1,a_zero,Int.reduceToNat]
    refine callP q4 lL ?_
    simp -dsimp(disch:=first|exact om|fail)only[go_sem,↓reduceIte,Nat.reduceEqDiff,Nat.reduceAdd,Nat.reduceSub,Nat.reduceMul,Nat.reduceLT,Nat.reduceLeDiff,reduceCtorEq,a_eq,a_neq,a_cast0,a_pred,a_app1,a_zero,Int.reduceToNat]
    refine callP q5 lL ?_
    simp -dsimp(disch:=first|exact om|fail)only[go_sem,↓reduceIte,Nat.reduceEqDiff,Nat.reduceAdd,Nat.reduceSub,Nat.reduceMul,Nat.reduceLT,Nat.reduceLeDiff,reduceCtorEq,a_eq,a_neq,a_cast0,a_pred,a_app1,a_zero,Int.reduceToNat]
    refine callP q6 lL ?_
    simp -dsimp(disch:=first|exact om|fail)only[go_sem,↓reduceIte,Nat.reduceEqDiff,Nat.reduceAdd,Nat.reduceSub,Nat.reduceMul,Nat.reduceLT,Nat.reduceLeDiff,reduceCtorEq,a_eq,a_neq,a_cast0,a_pred,a_app1,a_zero,Int.reduceToNat]
    refine callP q7 lL ?_
    simp -dsimp(disch:=first|exact om|fail)only[go_sem,↓reduceIte,Nat.reduceEqDiff,Nat.reduceAdd,Nat.reduceSub,Nat.reduceMul,Nat.reduceLT,Nat.reduceLeDiff,reduceCtorEq,a_eq,a_neq,a_cast0,a_pred,a_app1,a_zero,Int.reduceToNat]
    refine callP q9 lL ?_
    simp -dsimp(disch:=first|exact om|fail)only[go_sem,↓reduceIte,Nat.reduceEqDiff,Nat.reduceAdd,Nat.reduceSub,Nat.reduceMul,Nat.reduceLT,Nat.reduceLeDiff,reduceCtorEq,a_eq,a_neq,a_cast0,a_pred,a_app1,a_zero,Int.reduceToNat]
    refine callP q8 lL ?_
    simp -dsimp(disch:=first|exact om|fail)only[go_sem,↓reduceIte,Nat.reduceEqDiff,Nat.reduceAdd,Nat.reduceSub,Nat.reduceMul,Nat.reduceLT,Nat.reduceLeDiff,reduceCtorEq,a_eq,a_neq,a_cast0,a_pred,a_app1,a_zero,Int.reduceToNat]
    refine callP q10 lL ?_
    simp -dsimp(disch:=first|exact om|fail)only[go_sem,↓reduceIte,Nat.reduceEqDiff,Nat.reduceAdd,Nat.reduceSub,Nat.reduceMul,Nat.reduceLT,Nat.reduceLeDiff,reduceCtorEq,a_eq,a_neq,a_cast0,a_pred,a_app1,a_zero,Int.reduceToNat]
    refine callP q11 lL ?_
    simp -dsimp(disch:=first|exact om|fail)only[go_sem,↓reduceIte,Nat.reduceEqDiff,Nat.reduceAdd,Nat.reduceSub,Nat.reduceMul,Nat.reduceLT,Nat.reduceLeDiff,reduceCtorEq,a_eq,a_neq,a_cast0,a_pred,a_app1,a_zero,Int.reduceToNat]
    refine callP q12 lL ?_
    simp -dsimp(disch:=first|exact om|fail)only[go_sem,↓reduceIte,Nat.reduceEqDiff,Nat.reduceAdd,Nat.reduceSub,Nat.reduceMul,Nat.reduceLT,Nat.reduceLeDiff,reduceCtorEq,a_eq,a_neq,a_cast0,a_pred,a_app1,a_zero,Int.reduceToNat, al, ed, et]
    refine callP q14 lL ?_
    simp -dsimp(disch:=first|exact om|fail)only[go_sem,↓reduceIte,Nat.reduceEqDiff,Nat.reduceAdd,Nat.reduceSub,Nat.reduceMul,Nat.reduceLT,Nat.reduceLeDiff,reduceCtorEq,a_eq,a_neq,a_cast0,a_pred,a_app1,a_zero,Int.reduceToNat, al]
    refine callP q13 lL ?_
    simp -dsimp(disch:=first|exact om|fail)only[go_sem,↓reduceIte,Nat.reduceEqDiff,Nat.reduceAdd,Nat.reduceSub,Nat.reduceMul,Nat.reduceLT,Nat.reduceLeDiff,reduceCtorEq,a_eq,a_neq,a_cast0,a_pred,a_app1,a_zero,Int.reduceToNat, al, ec]
    refine callP q15 lL ?_
    simp -dsimp(disch:=first|exact om|fail)only[go_sem,↓reduceIte,Nat.reduceEqDiff,Nat.reduceAdd,Nat.reduceSub,Nat.reduceMul,Nat.reduceLT,Nat.reduceLeDiff,reduceCtorEq,a_eq,a_neq,a_cast0,a_pred,a_app1,a_zero,Int.reduceToNat]
  · simp -dsimp(disch:=first|exact om|fail)only[go_sem,↓reduceIte,Nat.reduceEqDiff,Nat.reduceAdd,Nat.reduceSub,Nat.reduceMul,Nat.reduceLT,Nat.reduceLeDiff,reduceCtorEq,a_eq,a_neq,a_cast0,a_pred,a_app1,a_zero,Int.reduceToNat]
theorem FnMatrices_c (f : Fl) (hf : f ≠ .u) (l : List Int) (hl : l.length ≤ 9223372036854775807) : PC PP F_laws_FnMatrices [byV f l] (Bo true) [] := by_lent (FnMatrices_s l) f hf
end Go.Proofs.Ytpmjjdhnacmphaa
