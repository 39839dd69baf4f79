/- part of the proof -/
import Derived.Test.YtikmepdhpffdoaaGreatTXg
namespace Go.Proofs.YtikmepdhpffdoaaGreat
open Go Go.RowKit
set_option maxRecDepth 100000
set_option maxHeartbeats 4000000
set_option linter.unusedVariables false
set_option linter.unusedSimpArgs false
theorem rng_get' {P : Nat → Bool} {n k : Nat} (h : (List.range n).all P = true) (hk : k < n) : P k = true := by
  rw [List.all_eq_true] at h; exact h k (List.mem_range.2 hk)
theorem rng_step' {P : Nat → Bool} {k : Nat} (h : (List.range k).all P = true) (h2 : P k = true) : (List.range (k + 1)).all P = true := by
  rw [List.range_succ, List.all_append, h]; simp [h2]
theorem rng_no' {P : Nat → Bool} {n k : Nat} (hk : k < n) (h : P k = false) : (List.range n).all P = false := by
  cases e : (List.range n).all P with
  | false => rfl
  | true => have := rng_get' e hk; rw [h] at this; exact absurd this (by decide)
noncomputable def colB (p : Prg) (x : List FQ) (least : Nat → Int) (j : Nat) : Bool := (wSum (colL p j) x).good && !decide ((wSum (colL p j) x).cmp (FQ.ofInt (least j)) < 0)
noncomputable def colsB (p : Prg) (x : List FQ) (least : Nat → Int) : Bool := (List.range p.cols.toNat).all (colB p x least)
theorem sml_c {p : Prg} (ho : okP' p = true) {j : Nat} (hj : (j : Int) < p.cols) : -100 ≤ p.c.getD j 0 ∧ p.c.getD j 0 ≤ 100 := by
  obtain ⟨_, _, hal, hbl, hcl, ia, ib, ic⟩ := okP_spec ho
  exact inB_get ic (by omega)
theorem sml_b {p : Prg} (ho : okP' p = true) {j : Nat} (hj : (j : Int) < p.rows) : -100 ≤ p.b.getD j 0 ∧ p.b.getD j 0 ≤ 100 := by
  obtain ⟨_, _, hal, hbl, hcl, ia, ib, ic⟩ := okP_spec ho
  exact inB_get ib (by omega)
theorem sg_lt {z : Int} : sgZ z < 0 ↔ z < 0 := by
  unfold sgZ
  split
  · omega
  · split <;> omega
noncomputable def dualB (p : Prg) (l : List RD) : Bool := validX p l p.rows && colsB p (l.map rdq) (fun j => p.c.getD j 0)
theorem spec_IsDual_c (f g : Fl) (hf : f ≠ .u) (hg : g ≠ .u) (p : Prg) (l : List RD) (hp : p.small) (hl : smallL l) : PC PP F_spec_IsDual [pV f p, sR g l] (Bo (dualB p l)) [] := by
  have h1 := hl.1
  unfold dualB validX
  refine tx W_spec_IsDual ke_spec_IsDual [] (by kernel_rfl) ?_
  have hP := spec_ProgramOk_c f hf p hp
  have hV := l09Valid_c g hg l hl
  cases ho : okP' p
  · rw [ho] at hP
    rw [Bool.false_and, Bool.false_and, Bool.false_and]
    simp -dsimp (disch := first | assumption | (refine OM.mk ?_; first | omega | (simp only [List.length_map, List.length_set, List.length_take] <;> omega)) | (simp -dsimp only [go_sem]; done) | fail) only [go_sem, ↓reduceIte, Nat.reduceEqDiff, Nat.reduceAdd, Nat.reduceSub, Nat.reduceMul, Nat.reduceLT, Nat.reduceLeDiff, reduceCtorEq, a_eq, a_neq, a_cast0, a_pred, a_app1, a_zero, Int.reduceToNat,  pC]
    refine callP hP (by simp -dsimp (disch := first | assumption | (refine OM.mk ?_; first | omega | (simp only [List.length_map, List.length_set, List.length_take] <;> omega)) | (simp -dsimp only [go_sem]; done) | fail) only [go_sem, ↓reduceIte, Nat.reduceEqDiff, Nat.reduceAdd, Nat.reduceSub, Nat.reduceMul, Nat.reduceLT, Nat.reduceLeDiff, reduceCtorEq, a_eq, a_neq, a_cast0, a_pred, a_app1, a_zero, Int.reduceToNat,  pC]) ?_
    simp -dsimp (disch := first | assumption | (refine OM.mk ?_; first | omega | (simp only [List.length_map, List.length_set, List.length_take] <;> omega)) | (simp -dsimp only [go_sem]; done) | fail) only [go_sem, ↓reduceIte, Nat.reduceEqDiff, Nat.reduceAdd, Nat.reduceSub, Nat.reduceMul, Nat.reduceLT, Nat.reduceLeDiff, reduceCtorEq, a_eq, a_neq, a_cast0, a_pred, a_app1, a_zero, Int.reduceToNat]
  · rw [ho] at hP
    have hC := fun j => l09Column_c f hf p j ho
    have hS := fun j => @sml_col p j ho
    have hc := fun j => @sml_c p ho j
    obtain ⟨⟨r1, r2⟩, ⟨c1, c2⟩, hal, hbl, hcl, ia, ib, ic⟩ := okP_spec ho
    by_cases h2 : (l.length : Int) = p.rows
    · cases ha : l.all RD.ok
      · rw [ha] at hV
        rw [Bool.and_false, Bool.false_and]
        simp -dsimp (disch := first | assumption | (refine OM.mk ?_; first | omega | (simp only [List.length_map, List.length_set, List.length_take] <;> omega)) | (simp -dsimp only [go_sem]; done) | fail) only [go_sem, ↓reduceIte, Nat.reduceEqDiff, Nat.reduceAdd, Nat.reduceSub, Nat.reduceMul, Nat.reduceLT, Nat.reduceLeDiff, reduceCtorEq, a_eq, a_neq, a_cast0, a_pred, a_app1, a_zero, Int.reduceToNat,  pC]
        refine callP hP (by simp -dsimp (disch := first | assumption | (refine OM.mk ?_; first | omega | (simp only [List.length_map, List.length_set, List.length_take] <;> omega)) | (simp -dsimp only [go_sem]; done) | fail) only [go_sem, ↓reduceIte, Nat.reduceEqDiff, Nat.reduceAdd, Nat.reduceSub, Nat.reduceMul, Nat.reduceLT, Nat.reduceLeDiff, reduceCtorEq, a_eq, a_neq, a_cast0, a_pred, a_app1, a_zero, Int.reduceToNat,  pC]) ?_
        simp -dsimp (disch := first | assumption | (refine OM.mk ?_; first | omega | (simp only [List.length_map, List.length_set, List.length_take] <;> omega)) | (simp -dsimp only [go_sem]; done) | fail) only [go_sem, ↓reduceIte, Nat.reduceEqDiff, Nat.reduceAdd, Nat.reduceSub, Nat.reduceMul, Nat.reduceLT, Nat.reduceLeDiff, reduceCtorEq, a_eq, a_neq, a_cast0, a_pred, a_app1, a_zero, Int.reduceToNat,  h2]
        refine callP hV (by simp -dsimp (disch := first | assumption | (simp -dsimp only [go_sem]; done) | fail) only [go_sem]) ?_
        simp -dsimp (disch := first | assumption | (refine OM.mk ?_; first | omega | (simp only [List.length_map, List.length_set, List.length_take] <;> omega)) | (simp -dsimp only [go_sem]; done) | fail) only [go_sem, ↓reduceIte, Nat.reduceEqDiff, Nat.reduceAdd, Nat.reduceSub, Nat.reduceMul, Nat.reduceLT, Nat.reduceLeDiff, reduceCtorEq, a_eq, a_neq, a_cast0, a_pred, a_app1, a_zero, Int.reduceToNat]
      · rw [ha] at hV
        rw [decide_eq_true h2, Bool.and_true, Bool.and_true, Bool.true_and]
        obtain ⟨x, rfl, ex, gx⟩ := all_list' ha
        rw [ex]
        rw [List.length_map] at h2
        have hQ : ∀ j : Nat, (j : Int) < p.cols → PC PP F_spec_l09Sum [sI .s (colL p j), sR g (x.map qd)] (toS (wSum (colL p j) x)) [] := fun j hj =>
          l09Sum_c .s g fls hg (colL p j) x (by rw [colL_length]; omega) (by omega) (hS j hj)
        have hB : ∀ j, colB p x (fun j => p.c.getD j 0) j = ((wSum (colL p j) x).good && !decide ((wSum (colL p j) x).cmp (FQ.ofInt (p.c.getD j 0)) < 0)) := fun j => rfl
        unfold colsB
        generalize hBB : colB p x (fun j => p.c.getD j 0) = B at *
        simp -dsimp (disch := first | assumption | (refine OM.mk ?_; first | omega | (simp only [List.length_map, List.length_set, List.length_take] <;> omega)) | (simp -dsimp only [go_sem]; done) | fail) only [go_sem, ↓reduceIte, Nat.reduceEqDiff, Nat.reduceAdd, Nat.reduceSub, Nat.reduceMul, Nat.reduceLT, Nat.reduceLeDiff, reduceCtorEq, a_eq, a_neq, a_cast0, a_pred, a_app1, a_zero, Int.reduceToNat,  pC]
        refine callP hP (by simp -dsimp (disch := first | assumption | (refine OM.mk ?_; first | omega | (simp only [List.length_map, List.length_set, List.length_take] <;> omega)) | (simp -dsimp only [go_sem]; done) | fail) only [go_sem, ↓reduceIte, Nat.reduceEqDiff, Nat.reduceAdd, Nat.reduceSub, Nat.reduceMul, Nat.reduceLT, Nat.reduceLeDiff, reduceCtorEq, a_eq, a_neq, a_cast0, a_pred, a_app1, a_zero, Int.reduceToNat,  pC]) ?_
        simp -dsimp (disch := first | assumption | (refine OM.mk ?_; first | omega | (simp only [List.length_map, List.length_set, List.length_take] <;> omega)) | (simp -dsimp only [go_sem]; done) | fail) only [go_sem, ↓reduceIte, Nat.reduceEqDiff, Nat.reduceAdd, Nat.reduceSub, Nat.reduceMul, Nat.reduceLT, Nat.reduceLeDiff, reduceCtorEq, a_eq, a_neq, a_cast0, a_pred, a_app1, a_zero, Int.reduceToNat,  h2]
        refine callP hV (by simp -dsimp (disch := first | assumption | (simp -dsimp only [go_sem]; done) | fail) only [go_sem]) ?_
        simp -dsimp (disch := first | assumption | (refine OM.mk ?_; first | omega | (simp only [List.length_map, List.length_set, List.length_take] <;> omega)) | (simp -dsimp only [go_sem]; done) | fail) only [go_sem, ↓reduceIte, Nat.reduceEqDiff, Nat.reduceAdd, Nat.reduceSub, Nat.reduceMul, Nat.reduceLT, Nat.reduceLeDiff, reduceCtorEq, a_eq, a_neq, a_cast0, a_pred, a_app1, a_zero, Int.reduceToNat]
        refine loopJ (fun j : Nat => j ≤ p.cols.toNat ∧ (List.range j).all B = true) (fun j => ⟨[(1, sR g (x.map qd)), (2, .ref 0 0), (5, I j)], [⟨.own, T_impl_Program, [I p.rows, I p.cols, sI f p.a, sI f p.b, sI f p.c]⟩]⟩) (fun j => p.cols.toNat - j) 0 ⟨by omega, rfl⟩ ?_ ?_
        · exact StI.ren [some 0] [[]] (by simp -dsimp only [go_sem, ↓reduceIte, Nat.reduceEqDiff, Nat.reduceAdd, Nat.reduceSub, Nat.reduceMul, Nat.reduceLT, Nat.reduceLeDiff, reduceCtorEq]) (by decide) (by simp -dsimp (disch := first | assumption | (refine OM.mk ?_; first | omega | (simp only [List.length_map, List.length_set, List.length_take] <;> omega)) | (simp -dsimp only [go_sem]; done) | fail) only [go_sem, ↓reduceIte, Nat.reduceEqDiff, Nat.reduceAdd, Nat.reduceSub, Nat.reduceMul, Nat.reduceLT, Nat.reduceLeDiff, reduceCtorEq, a_eq, a_neq, a_cast0, a_pred, a_app1, a_zero, Int.reduceToNat]) (by simp -dsimp (disch := first | assumption | (refine OM.mk ?_; first | omega | (simp only [List.length_map, List.length_set, List.length_take] <;> omega)) | (simp -dsimp only [go_sem]; done) | fail) only [go_sem, ↓reduceIte, Nat.reduceEqDiff, Nat.reduceAdd, Nat.reduceSub, Nat.reduceMul, Nat.reduceLT, Nat.reduceLeDiff, reduceCtorEq, a_eq, a_neq, a_cast0, a_pred, a_app1, a_zero, Int.reduceToNat])
        rintro j ⟨hj, hpj⟩
        by_cases h : (j : Int) < p.cols
        · have hCj := hC j ⟨by omega, h⟩
          rw [show ((j : Int).toNat) = j by omega] at hCj
          have hQj := hQ j h
          have hBj := hB j
          have hcj := hc j h
          have q1 := spec_RatFromInt_c (p.c.getD j 0) (by omega)
          have q2 := l04Cmp_c .s .s fls fls (wSum (colL p j) x) (FQ.ofInt (p.c.getD j 0))
          generalize wSum (colL p j) x = S at *
          generalize FQ.ofInt (p.c.getD j 0) = N at *
          simp -dsimp (disch := first | assumption | (refine OM.mk ?_; first | omega | (simp only [List.length_map, List.length_set, List.length_take] <;> omega)) | (simp -dsimp only [go_sem]; done) | fail) only [go_sem, ↓reduceIte, Nat.reduceEqDiff, Nat.reduceAdd, Nat.reduceSub, Nat.reduceMul, Nat.reduceLT, Nat.reduceLeDiff, reduceCtorEq, a_eq, a_neq, a_cast0, a_pred, a_app1, a_zero, Int.reduceToNat]
          refine callP hCj (by simp -dsimp (disch := first | assumption | (refine OM.mk ?_; first | omega | (simp only [List.length_map, List.length_set, List.length_take] <;> omega)) | (simp -dsimp only [go_sem]; done) | fail) only [go_sem, ↓reduceIte, Nat.reduceEqDiff, Nat.reduceAdd, Nat.reduceSub, Nat.reduceMul, Nat.reduceLT, Nat.reduceLeDiff, reduceCtorEq, a_eq, a_neq, a_cast0, a_pred, a_app1, a_zero, Int.reduceToNat,  pC]) ?_
          simp -dsimp (disch := first | assumption | (refine OM.mk ?_; first | omega | (simp only [List.length_map, List.length_set, List.length_take] <;> omega)) | (simp -dsimp only [go_sem]; done) | fail) only [go_sem, ↓reduceIte, Nat.reduceEqDiff, Nat.reduceAdd, Nat.reduceSub, Nat.reduceMul, Nat.reduceLT, Nat.reduceLeDiff, reduceCtorEq, a_eq, a_neq, a_cast0, a_pred, a_app1, a_zero, Int.reduceToNat]
          refine callP hQj (by simp -dsimp (disch := first | assumption | (simp -dsimp only [go_sem]; done) | fail) only [go_sem]) ?_
          cases hgd : S.good
          · rw [hgd, Bool.false_and] at hBj
            simp -dsimp (disch := first | assumption | (refine OM.mk ?_; first | omega | (simp only [List.length_map, List.length_set, List.length_take] <;> omega)) | (simp -dsimp only [go_sem]; done) | fail) only [go_sem, ↓reduceIte, Nat.reduceEqDiff, Nat.reduceAdd, Nat.reduceSub, Nat.reduceMul, Nat.reduceLT, Nat.reduceLeDiff, reduceCtorEq, a_eq, a_neq, a_cast0, a_pred, a_app1, a_zero, Int.reduceToNat,  hgd]
            exact (rng_no' (k := j) (by omega) hBj).symm
          · rw [hgd, Bool.true_and] at hBj
            simp -dsimp (disch := first | assumption | (refine OM.mk ?_; first | omega | (simp only [List.length_map, List.length_set, List.length_take] <;> omega)) | (simp -dsimp only [go_sem]; done) | fail) only [go_sem, ↓reduceIte, Nat.reduceEqDiff, Nat.reduceAdd, Nat.reduceSub, Nat.reduceMul, Nat.reduceLT, Nat.reduceLeDiff, reduceCtorEq, a_eq, a_neq, a_cast0, a_pred, a_app1, a_zero, Int.reduceToNat,  hgd]
            refine callP q1 (by simp -dsimp (disch := first | assumption | (simp -dsimp only [go_sem]; done) | fail) only [go_sem]) ?_
            simp -dsimp (disch := first | assumption | (refine OM.mk ?_; first | omega | (simp only [List.length_map, List.length_set, List.length_take] <;> omega)) | (simp -dsimp only [go_sem]; done) | fail) only [go_sem, ↓reduceIte, Nat.reduceEqDiff, Nat.reduceAdd, Nat.reduceSub, Nat.reduceMul, Nat.reduceLT, Nat.reduceLeDiff, reduceCtorEq, a_eq, a_neq, a_cast0, a_pred, a_app1, a_zero, Int.reduceToNat]
            refine callP q2 (by simp -dsimp (disch := first | assumption | (simp -dsimp only [go_sem]; done) | fail) only [go_sem]) ?_
            by_cases hlt : S.cmp N < 0
            · rw [decide_eq_true hlt] at hBj
              simp -dsimp (disch := first | assumption | (refine OM.mk ?_; first | omega | (simp only [List.length_map, List.length_set, List.length_take] <;> omega)) | (simp -dsimp only [go_sem]; done) | fail) only [go_sem, ↓reduceIte, Nat.reduceEqDiff, Nat.reduceAdd, Nat.reduceSub, Nat.reduceMul, Nat.reduceLT, Nat.reduceLeDiff, reduceCtorEq, a_eq, a_neq, a_cast0, a_pred, a_app1, a_zero, Int.reduceToNat]
              exact (rng_no' (k := j) (by omega) hBj).symm
            · rw [decide_eq_false hlt] at hBj
              simp -dsimp (disch := first | assumption | (refine OM.mk ?_; first | omega | (simp only [List.length_map, List.length_set, List.length_take] <;> omega)) | (simp -dsimp only [go_sem]; done) | fail) only [go_sem, ↓reduceIte, Nat.reduceEqDiff, Nat.reduceAdd, Nat.reduceSub, Nat.reduceMul, Nat.reduceLT, Nat.reduceLeDiff, reduceCtorEq, a_eq, a_neq, a_cast0, a_pred, a_app1, a_zero, Int.reduceToNat]
              exact ⟨j + 1, ⟨by omega, rng_step' hpj hBj⟩, by omega, StI.ren [some 0] [[]] (by simp -dsimp only [go_sem, ↓reduceIte, Nat.reduceEqDiff, Nat.reduceAdd, Nat.reduceSub, Nat.reduceMul, Nat.reduceLT, Nat.reduceLeDiff, reduceCtorEq]) (by decide) (by simp -dsimp (disch := first | assumption | (refine OM.mk ?_; first | omega | (simp only [List.length_map, List.length_set, List.length_take] <;> omega)) | (simp -dsimp only [go_sem]; done) | fail) only [go_sem, ↓reduceIte, Nat.reduceEqDiff, Nat.reduceAdd, Nat.reduceSub, Nat.reduceMul, Nat.reduceLT, Nat.reduceLeDiff, reduceCtorEq, a_eq, a_neq, a_cast0, a_pred, a_app1, a_zero, Int.reduceToNat]) (by simp -dsimp (disch := first | assumption | (refine OM.mk ?_; first | omega | (simp only [List.length_map, List.length_set, List.length_take] <;> omega)) | (simp -dsimp only [go_sem]; done) | fail) only [go_sem, ↓reduceIte, Nat.reduceEqDiff, Nat.reduceAdd, Nat.reduceSub, Nat.reduceMul, Nat.reduceLT, Nat.reduceLeDiff, reduceCtorEq, a_eq, a_neq, a_cast0, a_pred, a_app1, a_zero, Int.reduceToNat])⟩
        · obtain rfl : j = p.cols.toNat := by omega
          simp -dsimp (disch := first | assumption | (refine OM.mk ?_; first | omega | (simp only [List.length_map, List.length_set, List.length_take] <;> omega)) | (simp -dsimp only [go_sem]; done) | fail) only [go_sem, ↓reduceIte, Nat.reduceEqDiff, Nat.reduceAdd, Nat.reduceSub, Nat.reduceMul, Nat.reduceLT, Nat.reduceLeDiff, reduceCtorEq, a_eq, a_neq, a_cast0, a_pred, a_app1, a_zero, Int.reduceToNat]
          exact hpj.symm
    · rw [decide_eq_false h2, Bool.and_false, Bool.false_and, Bool.false_and]
      simp -dsimp (disch := first | assumption | (refine OM.mk ?_; first | omega | (simp only [List.length_map, List.length_set, List.length_take] <;> omega)) | (simp -dsimp only [go_sem]; done) | fail) only [go_sem, ↓reduceIte, Nat.reduceEqDiff, Nat.reduceAdd, Nat.reduceSub, Nat.reduceMul, Nat.reduceLT, Nat.reduceLeDiff, reduceCtorEq, a_eq, a_neq, a_cast0, a_pred, a_app1, a_zero, Int.reduceToNat,  pC]
      refine callP hP (by simp -dsimp (disch := first | assumption | (refine OM.mk ?_; first | omega | (simp only [List.length_map, List.length_set, List.length_take] <;> omega)) | (simp -dsimp only [go_sem]; done) | fail) only [go_sem, ↓reduceIte, Nat.reduceEqDiff, Nat.reduceAdd, Nat.reduceSub, Nat.reduceMul, Nat.reduceLT, Nat.reduceLeDiff, reduceCtorEq, a_eq, a_neq, a_cast0, a_pred, a_app1, a_zero, Int.reduceToNat,  pC]) ?_
      simp -dsimp (disch := first | assumption | (refine OM.mk ?_; first | omega | (simp only [List.length_map, List.length_set, List.length_take] <;> omega)) | (simp -dsimp only [go_sem]; done) | fail) only [go_sem, ↓reduceIte, Nat.reduceEqDiff, Nat.reduceAdd, Nat.reduceSub, Nat.reduceMul, Nat.reduceLT, Nat.reduceLeDiff, reduceCtorEq, a_eq, a_neq, a_cast0, a_pred, a_app1, a_zero, Int.reduceToNat,  h2]
def rowI (p : Prg) (i : Nat) : List Int := (p.a.drop (i * p.cols.toNat)).take p.cols.toNat
theorem rowI_facts {p : Prg} (ho : okP' p = true) {i : Nat} (hi : (i : Int) < p.rows) : ∃ c : Nat, p.cols = c ∧ c ≤ 40 ∧ i * c + c ≤ p.a.length ∧ p.a.length ≤ 800 ∧ (rowI p i).length = c ∧ rowI p i = (p.a.drop (i * c)).take c := by
  obtain ⟨⟨r1, r2⟩, ⟨c1, c2⟩, hal, _⟩ := okP_spec ho
  obtain ⟨c, hc⟩ : ∃ c : Nat, p.cols = c := ⟨p.cols.toNat, by omega⟩
  obtain ⟨r, hr⟩ : ∃ r : Nat, p.rows = r := ⟨p.rows.toNat, by omega⟩
  rw [hr, hc, ← Int.natCast_mul] at hal
  have h1 : (i + 1) * c ≤ r * c := Nat.mul_le_mul_right c (by omega)
  have h2 : r * c ≤ 20 * 40 := Nat.mul_le_mul (by omega) (by omega)
  rw [Nat.succ_mul] at h1
  have e : p.cols.toNat = c := by omega
  refine ⟨c, hc, by omega, by omega, by omega, ?_, by unfold rowI; rw [e]⟩
  unfold rowI
  rw [e, List.length_take, List.length_drop]
  omega
theorem sml_row {p : Prg} (ho : okP' p = true) {i : Nat} (hi : (i : Int) < p.rows) : sml (rowI p i) := by
  obtain ⟨c, hc, h40, h1, h2, hl, e⟩ := rowI_facts ho hi
  obtain ⟨_, _, _, _, _, ia, _⟩ := okP_spec ho
  intro k hk
  rw [hl] at hk
  have : (rowI p i).getD k 0 = p.a.getD (i * c + k) 0 := by
    rw [e, List.getD_eq_getElem?_getD, List.getElem?_take_of_lt hk, List.getElem?_drop, ← List.getD_eq_getElem?_getD]
  rw [this]
  exact inB_get ia (by omega)
theorem iC_cut {l : List Int} {i c : Nat} : ((iC l).drop i).take c = iC ((l.drop i).take c) := by simp [iC, List.map_take, List.map_drop]
theorem l09Row_b (f : Fl) (hf : f ≠ .u) (p : Prg) (i : Nat) (ho : okP' p = true) (hi : (i : Int) < p.rows) : PB PP F_spec_l09Row [pV f p, I i] (sI .b (rowI p i)) [] := by
  obtain ⟨c, hc, h40, h1, h2, hl, e⟩ := rowI_facts ho hi
  obtain ⟨⟨r1, r2⟩, _⟩ := okP_spec ho
  have e1 : (i : Int) * (c : Int) = ((i * c : Nat) : Int) := by rw [Int.natCast_mul]
  have e2 : ((i : Int) + 1) * (c : Int) = ((i * c + c : Nat) : Int) := by rw [Int.add_mul, Int.one_mul, e1]; omega
  have e3 : (i * c + c) - i * c = c := by omega
  refine txb W_spec_l09Row ke_spec_l09Row [] [] [] (by kernel_rfl) ?_
  simp -dsimp (disch := first | assumption | (refine OM.mk ?_; first | omega | (simp only [List.length_map, List.length_set, List.length_take] <;> omega)) | (simp -dsimp only [go_sem]; done) | fail) only [go_sem, ↓reduceIte, Nat.reduceEqDiff, Nat.reduceAdd, Nat.reduceSub, Nat.reduceMul, Nat.reduceLT, Nat.reduceLeDiff, reduceCtorEq, a_eq, a_neq, a_cast0, a_pred, a_app1, a_zero, Int.reduceToNat,  pC, hc, e1, e2]
  rw [e3, iC_cut, ← e]
  rw [show sI .b (rowI p i) = .sl .b 1 c (iC (rowI p i)) by show V.sl .b 1 (rowI p i).length _ = _; rw [hl]]
  exact RtB.nothing [] (by decide) trivial (Rn.lent hf)
noncomputable def rowB (p : Prg) (x : List FQ) (i : Nat) : Bool := (wSum (rowI p i) x).good && decide ((wSum (rowI p i) x).cmp (FQ.ofInt (p.b.getD i 0)) = 0)
noncomputable def feasB (p : Prg) (l : List RD) : Bool := validX p l p.cols && l.all (fun r => !decide ((rdq r).num < 0)) && (List.range p.rows.toNat).all (rowB p (l.map rdq))
theorem spec_IsFeasible_c (f g : Fl) (hf : f ≠ .u) (hg : g ≠ .u) (p : Prg) (l : List RD) (hp : p.small) (hl : smallL l) : PC PP F_spec_IsFeasible [pV f p, sR g l] (Bo (feasB p l)) [] := by
  have h1 := hl.1
  unfold feasB validX
  refine tx W_spec_IsFeasible ke_spec_IsFeasible [] (by kernel_rfl) ?_
  have hP := spec_ProgramOk_c f hf p hp
  have hV := l09Valid_c g hg l hl
  cases ho : okP' p
  · rw [ho] at hP
    rw [Bool.false_and, Bool.false_and, Bool.false_and, Bool.false_and]
    simp -dsimp (disch := first | assumption | (refine OM.mk ?_; first | omega | (simp only [List.length_map, List.length_set, List.length_take] <;> omega)) | (simp -dsimp only [go_sem]; done) | fail) only [go_sem, ↓reduceIte, Nat.reduceEqDiff, Nat.reduceAdd, Nat.reduceSub, Nat.reduceMul, Nat.reduceLT, Nat.reduceLeDiff, reduceCtorEq, a_eq, a_neq, a_cast0, a_pred, a_app1, a_zero, Int.reduceToNat,  pC]
    refine callP hP (by simp -dsimp (disch := first | assumption | (refine OM.mk ?_; first | omega | (simp only [List.length_map, List.length_set, List.length_take] <;> omega)) | (simp -dsimp only [go_sem]; done) | fail) only [go_sem, ↓reduceIte, Nat.reduceEqDiff, Nat.reduceAdd, Nat.reduceSub, Nat.reduceMul, Nat.reduceLT, Nat.reduceLeDiff, reduceCtorEq, a_eq, a_neq, a_cast0, a_pred, a_app1, a_zero, Int.reduceToNat,  pC]) ?_
    simp -dsimp (disch := first | assumption | (refine OM.mk ?_; first | omega | (simp only [List.length_map, List.length_set, List.length_take] <;> omega)) | (simp -dsimp only [go_sem]; done) | fail) only [go_sem, ↓reduceIte, Nat.reduceEqDiff, Nat.reduceAdd, Nat.reduceSub, Nat.reduceMul, Nat.reduceLT, Nat.reduceLeDiff, reduceCtorEq, a_eq, a_neq, a_cast0, a_pred, a_app1, a_zero, Int.reduceToNat]
  · rw [ho] at hP
    have hR := fun i => l09Row_b f hf p i ho
    have hS := fun i => @sml_row p ho i
    have hF := fun i => @rowI_facts p ho i
    have hb := fun j => @sml_b p ho j
    obtain ⟨⟨r1, r2⟩, ⟨c1, c2⟩, hal, hbl, hcl, ia, ib, ic⟩ := okP_spec ho
    by_cases h2 : (l.length : Int) = p.cols
    · cases ha : l.all RD.ok
      · rw [ha] at hV
        rw [Bool.and_false, Bool.false_and, Bool.false_and]
        simp -dsimp (disch := first | assumption | (refine OM.mk ?_; first | omega | (simp only [List.length_map, List.length_set, List.length_take] <;> omega)) | (simp -dsimp only [go_sem]; done) | fail) only [go_sem, ↓reduceIte, Nat.reduceEqDiff, Nat.reduceAdd, Nat.reduceSub, Nat.reduceMul, Nat.reduceLT, Nat.reduceLeDiff, reduceCtorEq, a_eq, a_neq, a_cast0, a_pred, a_app1, a_zero, Int.reduceToNat,  pC]
        refine callP hP (by simp -dsimp (disch := first | assumption | (refine OM.mk ?_; first | omega | (simp only [List.length_map, List.length_set, List.length_take] <;> omega)) | (simp -dsimp only [go_sem]; done) | fail) only [go_sem, ↓reduceIte, Nat.reduceEqDiff, Nat.reduceAdd, Nat.reduceSub, Nat.reduceMul, Nat.reduceLT, Nat.reduceLeDiff, reduceCtorEq, a_eq, a_neq, a_cast0, a_pred, a_app1, a_zero, Int.reduceToNat,  pC]) ?_
        simp -dsimp (disch := first | assumption | (refine OM.mk ?_; first | omega | (simp only [List.length_map, List.length_set, List.length_take] <;> omega)) | (simp -dsimp only [go_sem]; done) | fail) only [go_sem, ↓reduceIte, Nat.reduceEqDiff, Nat.reduceAdd, Nat.reduceSub, Nat.reduceMul, Nat.reduceLT, Nat.reduceLeDiff, reduceCtorEq, a_eq, a_neq, a_cast0, a_pred, a_app1, a_zero, Int.reduceToNat,  h2]
        refine callP hV (by simp -dsimp (disch := first | assumption | (simp -dsimp only [go_sem]; done) | fail) only [go_sem]) ?_
        simp -dsimp (disch := first | assumption | (refine OM.mk ?_; first | omega | (simp only [List.length_map, List.length_set, List.length_take] <;> omega)) | (simp -dsimp only [go_sem]; done) | fail) only [go_sem, ↓reduceIte, Nat.reduceEqDiff, Nat.reduceAdd, Nat.reduceSub, Nat.reduceMul, Nat.reduceLT, Nat.reduceLeDiff, reduceCtorEq, a_eq, a_neq, a_cast0, a_pred, a_app1, a_zero, Int.reduceToNat]
      · rw [ha] at hV
        rw [decide_eq_true h2, Bool.and_true, Bool.and_true, Bool.true_and]
        obtain ⟨x, hx, ex, gx⟩ := all_list' ha
        have hxl : x.length = l.length := by rw [hx, List.length_map]
        have hSg := fun k (hk : k < l.length) => spec_RatSign_c g hg (l.getD k RD.zero) (hl.getD hk)
        have hQ : ∀ i : Nat, (i : Int) < p.rows → PC PP F_spec_l09Sum [sI .b (rowI p i), sR g l] (toS (wSum (rowI p i) x)) [] := fun i hi => by
          obtain ⟨c, e1, e2, e3, e4, e5, e6⟩ := hF i hi
          rw [hx]
          exact l09Sum_c .b g flb hg (rowI p i) x (by omega) (by omega) (hS i hi)
        have hB : ∀ i, rowB p x i = ((wSum (rowI p i) x).good && decide ((wSum (rowI p i) x).cmp (FQ.ofInt (p.b.getD i 0)) = 0)) := fun j => rfl
        rw [ex]
        obtain ⟨sg, hsg⟩ : ∃ sg : RD → Bool, sg = fun r => !decide ((rdq r).num < 0) := ⟨_, rfl⟩
        rw [← hsg]
        generalize rowB p x = B at *
        simp -dsimp (disch := first | assumption | (refine OM.mk ?_; first | omega | (simp only [List.length_map, List.length_set, List.length_take] <;> omega)) | (simp -dsimp only [go_sem]; done) | fail) only [go_sem, ↓reduceIte, Nat.reduceEqDiff, Nat.reduceAdd, Nat.reduceSub, Nat.reduceMul, Nat.reduceLT, Nat.reduceLeDiff, reduceCtorEq, a_eq, a_neq, a_cast0, a_pred, a_app1, a_zero, Int.reduceToNat,  pC]
        refine callP hP (by simp -dsimp (disch := first | assumption | (refine OM.mk ?_; first | omega | (simp only [List.length_map, List.length_set, List.length_take] <;> omega)) | (simp -dsimp only [go_sem]; done) | fail) only [go_sem, ↓reduceIte, Nat.reduceEqDiff, Nat.reduceAdd, Nat.reduceSub, Nat.reduceMul, Nat.reduceLT, Nat.reduceLeDiff, reduceCtorEq, a_eq, a_neq, a_cast0, a_pred, a_app1, a_zero, Int.reduceToNat,  pC]) ?_
        simp -dsimp (disch := first | assumption | (refine OM.mk ?_; first | omega | (simp only [List.length_map, List.length_set, List.length_take] <;> omega)) | (simp -dsimp only [go_sem]; done) | fail) only [go_sem, ↓reduceIte, Nat.reduceEqDiff, Nat.reduceAdd, Nat.reduceSub, Nat.reduceMul, Nat.reduceLT, Nat.reduceLeDiff, reduceCtorEq, a_eq, a_neq, a_cast0, a_pred, a_app1, a_zero, Int.reduceToNat,  h2]
        refine callP hV (by simp -dsimp (disch := first | assumption | (simp -dsimp only [go_sem]; done) | fail) only [go_sem]) ?_
        simp -dsimp (disch := first | assumption | (refine OM.mk ?_; first | omega | (simp only [List.length_map, List.length_set, List.length_take] <;> omega)) | (simp -dsimp only [go_sem]; done) | fail) only [go_sem, ↓reduceIte, Nat.reduceEqDiff, Nat.reduceAdd, Nat.reduceSub, Nat.reduceMul, Nat.reduceLT, Nat.reduceLeDiff, reduceCtorEq, a_eq, a_neq, a_cast0, a_pred, a_app1, a_zero, Int.reduceToNat]
        refine loopJ (fun k : Nat => k ≤ l.length ∧ (l.take k).all sg = true) (fun k => ⟨[(1, sR g l), (2, .ref 0 0), (25, sR g l), (26, I l.length), (27, I k)], [⟨.own, T_impl_Program, [I p.rows, I p.cols, sI f p.a, sI f p.b, sI f p.c]⟩]⟩) (fun k => l.length - k) 0 ⟨by omega, rfl⟩ ?_ ?_
        · exact StI.ren [some 0] [[]] (by simp -dsimp only [go_sem, ↓reduceIte, Nat.reduceEqDiff, Nat.reduceAdd, Nat.reduceSub, Nat.reduceMul, Nat.reduceLT, Nat.reduceLeDiff, reduceCtorEq]) (by decide) (by simp -dsimp (disch := first | assumption | (refine OM.mk ?_; first | omega | (simp only [List.length_map, List.length_set, List.length_take] <;> omega)) | (simp -dsimp only [go_sem]; done) | fail) only [go_sem, ↓reduceIte, Nat.reduceEqDiff, Nat.reduceAdd, Nat.reduceSub, Nat.reduceMul, Nat.reduceLT, Nat.reduceLeDiff, reduceCtorEq, a_eq, a_neq, a_cast0, a_pred, a_app1, a_zero, Int.reduceToNat]) (by simp -dsimp (disch := first | assumption | (refine OM.mk ?_; first | omega | (simp only [List.length_map, List.length_set, List.length_take] <;> omega)) | (simp -dsimp only [go_sem]; done) | fail) only [go_sem, ↓reduceIte, Nat.reduceEqDiff, Nat.reduceAdd, Nat.reduceSub, Nat.reduceMul, Nat.reduceLT, Nat.reduceLeDiff, reduceCtorEq, a_eq, a_neq, a_cast0, a_pred, a_app1, a_zero, Int.reduceToNat])
        rintro k ⟨hk, hpk⟩
        by_cases h : k < l.length
        · have q := hSg k h
          have hsk : sg (l.getD k RD.zero) = !decide ((rdq (l.getD k RD.zero)).num < 0) := by rw [hsg]
          generalize hz : l.getD k RD.zero = R at *
          simp -dsimp (disch := first | assumption | (refine OM.mk ?_; first | omega | (simp only [List.length_map, List.length_set, List.length_take] <;> omega)) | (simp -dsimp only [go_sem]; done) | fail) only [go_sem, ↓reduceIte, Nat.reduceEqDiff, Nat.reduceAdd, Nat.reduceSub, Nat.reduceMul, Nat.reduceLT, Nat.reduceLeDiff, reduceCtorEq, a_eq, a_neq, a_cast0, a_pred, a_app1, a_zero, Int.reduceToNat,  hz]
          refine callP q (by simp -dsimp (disch := first | assumption | (simp -dsimp only [go_sem]; done) | fail) only [go_sem]) ?_
          by_cases hn : (rdq R).num < 0
          · have hn' : sgZ (rdq R).num < 0 := sg_lt.2 hn
            rw [decide_eq_true hn] at hsk
            have hs0 : l.all sg = false := (all_no (p := sg) (k := k) (d := RD.zero) h (by rw [hz, hsk]; rfl)).symm
            simp -dsimp (disch := first | assumption | (refine OM.mk ?_; first | omega | (simp only [List.length_map, List.length_set, List.length_take] <;> omega)) | (simp -dsimp only [go_sem]; done) | fail) only [go_sem, ↓reduceIte, Nat.reduceEqDiff, Nat.reduceAdd, Nat.reduceSub, Nat.reduceMul, Nat.reduceLT, Nat.reduceLeDiff, reduceCtorEq, a_eq, a_neq, a_cast0, a_pred, a_app1, a_zero, Int.reduceToNat]
            rw [hs0, Bool.false_and]
          · have hn' : ¬ sgZ (rdq R).num < 0 := fun h => hn (sg_lt.1 h)
            rw [decide_eq_false hn] at hsk
            simp -dsimp (disch := first | assumption | (refine OM.mk ?_; first | omega | (simp only [List.length_map, List.length_set, List.length_take] <;> omega)) | (simp -dsimp only [go_sem]; done) | fail) only [go_sem, ↓reduceIte, Nat.reduceEqDiff, Nat.reduceAdd, Nat.reduceSub, Nat.reduceMul, Nat.reduceLT, Nat.reduceLeDiff, reduceCtorEq, a_eq, a_neq, a_cast0, a_pred, a_app1, a_zero, Int.reduceToNat]
            exact ⟨k + 1, ⟨by omega, all_step (d := RD.zero) hpk h (by rw [hz, hsk]; rfl)⟩, by omega, StI.ren [some 0] [[]] (by simp -dsimp only [go_sem, ↓reduceIte, Nat.reduceEqDiff, Nat.reduceAdd, Nat.reduceSub, Nat.reduceMul, Nat.reduceLT, Nat.reduceLeDiff, reduceCtorEq]) (by decide) (by simp -dsimp (disch := first | assumption | (refine OM.mk ?_; first | omega | (simp only [List.length_map, List.length_set, List.length_take] <;> omega)) | (simp -dsimp only [go_sem]; done) | fail) only [go_sem, ↓reduceIte, Nat.reduceEqDiff, Nat.reduceAdd, Nat.reduceSub, Nat.reduceMul, Nat.reduceLT, Nat.reduceLeDiff, reduceCtorEq, a_eq, a_neq, a_cast0, a_pred, a_app1, a_zero, Int.reduceToNat]) (by simp -dsimp (disch := first | assumption | (refine OM.mk ?_; first | omega | (simp only [List.length_map, List.length_set, List.length_take] <;> omega)) | (simp -dsimp only [go_sem]; done) | fail) only [go_sem, ↓reduceIte, Nat.reduceEqDiff, Nat.reduceAdd, Nat.reduceSub, Nat.reduceMul, Nat.reduceLT, Nat.reduceLeDiff, reduceCtorEq, a_eq, a_neq, a_cast0, a_pred, a_app1, a_zero, Int.reduceToNat])⟩
        · rw [show l.all sg = true from (all_end hpk h).symm, Bool.true_and]
          obtain rfl : k = l.length := by omega
          simp -dsimp (disch := first | assumption | (refine OM.mk ?_; first | omega | (simp only [List.length_map, List.length_set, List.length_take] <;> omega)) | (simp -dsimp only [go_sem]; done) | fail) only [go_sem, ↓reduceIte, Nat.reduceEqDiff, Nat.reduceAdd, Nat.reduceSub, Nat.reduceMul, Nat.reduceLT, Nat.reduceLeDiff, reduceCtorEq, a_eq, a_neq, a_cast0, a_pred, a_app1, a_zero, Int.reduceToNat]
          refine loopJ (fun i : Nat => i ≤ p.rows.toNat ∧ (List.range i).all B = true) (fun i => ⟨[(1, sR g l), (2, .ref 0 0), (7, I i)], [⟨.own, T_impl_Program, [I p.rows, I p.cols, sI f p.a, sI f p.b, sI f p.c]⟩]⟩) (fun i => p.rows.toNat - i) 0 ⟨by omega, rfl⟩ ?_ ?_
          · exact StI.ren [some 0] [[]] (by simp -dsimp only [go_sem, ↓reduceIte, Nat.reduceEqDiff, Nat.reduceAdd, Nat.reduceSub, Nat.reduceMul, Nat.reduceLT, Nat.reduceLeDiff, reduceCtorEq]) (by decide) (by simp -dsimp (disch := first | assumption | (refine OM.mk ?_; first | omega | (simp only [List.length_map, List.length_set, List.length_take] <;> omega)) | (simp -dsimp only [go_sem]; done) | fail) only [go_sem, ↓reduceIte, Nat.reduceEqDiff, Nat.reduceAdd, Nat.reduceSub, Nat.reduceMul, Nat.reduceLT, Nat.reduceLeDiff, reduceCtorEq, a_eq, a_neq, a_cast0, a_pred, a_app1, a_zero, Int.reduceToNat]) (by simp -dsimp (disch := first | assumption | (refine OM.mk ?_; first | omega | (simp only [List.length_map, List.length_set, List.length_take] <;> omega)) | (simp -dsimp only [go_sem]; done) | fail) only [go_sem, ↓reduceIte, Nat.reduceEqDiff, Nat.reduceAdd, Nat.reduceSub, Nat.reduceMul, Nat.reduceLT, Nat.reduceLeDiff, reduceCtorEq, a_eq, a_neq, a_cast0, a_pred, a_app1, a_zero, Int.reduceToNat])
          rintro i ⟨hi, hpi⟩
          by_cases h : (i : Int) < p.rows
          · have hRi := hR i h
            have hQi := hQ i h
            have hBi := hB i
            have hbi := hb i h
            have q1 := spec_RatFromInt_c (p.b.getD i 0) (by omega)
            have q2 := l04Cmp_c .s .s fls fls (wSum (rowI p i) x) (FQ.ofInt (p.b.getD i 0))
            generalize wSum (rowI p i) x = S at *
            generalize FQ.ofInt (p.b.getD i 0) = N at *
            simp -dsimp (disch := first | assumption | (refine OM.mk ?_; first | omega | (simp only [List.length_map, List.length_set, List.length_take] <;> omega)) | (simp -dsimp only [go_sem]; done) | fail) only [go_sem, ↓reduceIte, Nat.reduceEqDiff, Nat.reduceAdd, Nat.reduceSub, Nat.reduceMul, Nat.reduceLT, Nat.reduceLeDiff, reduceCtorEq, a_eq, a_neq, a_cast0, a_pred, a_app1, a_zero, Int.reduceToNat]
            refine callB' hRi (by simp [V.fl2, V.fl1, rdC]) (by simp -dsimp only [go_sem, ↓reduceIte, Nat.reduceEqDiff, Nat.reduceAdd, Nat.reduceSub, Nat.reduceMul, Nat.reduceLT, Nat.reduceLeDiff, reduceCtorEq,  List.forall_mem_cons, List.not_mem_nil, false_implies, implies_true]) ?_
            simp -dsimp (disch := first | assumption | (refine OM.mk ?_; first | omega | (simp only [List.length_map, List.length_set, List.length_take] <;> omega)) | (simp -dsimp only [go_sem]; done) | fail) only [go_sem, ↓reduceIte, Nat.reduceEqDiff, Nat.reduceAdd, Nat.reduceSub, Nat.reduceMul, Nat.reduceLT, Nat.reduceLeDiff, reduceCtorEq, a_eq, a_neq, a_cast0, a_pred, a_app1, a_zero, Int.reduceToNat]
            refine callP hQi (by simp -dsimp (disch := first | assumption | (simp -dsimp only [go_sem]; done) | fail) only [go_sem]) ?_
            cases hgd : S.good
            · rw [hgd, Bool.false_and] at hBi
              simp -dsimp (disch := first | assumption | (refine OM.mk ?_; first | omega | (simp only [List.length_map, List.length_set, List.length_take] <;> omega)) | (simp -dsimp only [go_sem]; done) | fail) only [go_sem, ↓reduceIte, Nat.reduceEqDiff, Nat.reduceAdd, Nat.reduceSub, Nat.reduceMul, Nat.reduceLT, Nat.reduceLeDiff, reduceCtorEq, a_eq, a_neq, a_cast0, a_pred, a_app1, a_zero, Int.reduceToNat,  hgd]
              exact (rng_no' (k := i) (by omega) hBi).symm
            · rw [hgd, Bool.true_and] at hBi
              simp -dsimp (disch := first | assumption | (refine OM.mk ?_; first | omega | (simp only [List.length_map, List.length_set, List.length_take] <;> omega)) | (simp -dsimp only [go_sem]; done) | fail) only [go_sem, ↓reduceIte, Nat.reduceEqDiff, Nat.reduceAdd, Nat.reduceSub, Nat.reduceMul, Nat.reduceLT, Nat.reduceLeDiff, reduceCtorEq, a_eq, a_neq, a_cast0, a_pred, a_app1, a_zero, Int.reduceToNat,  hgd]
              refine callP q1 (by simp -dsimp (disch := first | assumption | (simp -dsimp only [go_sem]; done) | fail) only [go_sem]) ?_
              simp -dsimp (disch := first | assumption | (refine OM.mk ?_; first | omega | (simp only [List.length_map, List.length_set, List.length_take] <;> omega)) | (simp -dsimp only [go_sem]; done) | fail) only [go_sem, ↓reduceIte, Nat.reduceEqDiff, Nat.reduceAdd, Nat.reduceSub, Nat.reduceMul, Nat.reduceLT, Nat.reduceLeDiff, reduceCtorEq, a_eq, a_neq, a_cast0, a_pred, a_app1, a_zero, Int.reduceToNat]
              refine callP q2 (by simp -dsimp (disch := first | assumption | (simp -dsimp only [go_sem]; done) | fail) only [go_sem]) ?_
              by_cases hlt : S.cmp N = 0
              · rw [decide_eq_true hlt] at hBi
                simp -dsimp (disch := first | assumption | (refine OM.mk ?_; first | omega | (simp only [List.length_map, List.length_set, List.length_take] <;> omega)) | (simp -dsimp only [go_sem]; done) | fail) only [go_sem, ↓reduceIte, Nat.reduceEqDiff, Nat.reduceAdd, Nat.reduceSub, Nat.reduceMul, Nat.reduceLT, Nat.reduceLeDiff, reduceCtorEq, a_eq, a_neq, a_cast0, a_pred, a_app1, a_zero, Int.reduceToNat,  hlt]
                exact ⟨i + 1, ⟨by omega, rng_step' hpi hBi⟩, by omega, StI.ren [some 0] [[]] (by simp -dsimp only [go_sem, ↓reduceIte, Nat.reduceEqDiff, Nat.reduceAdd, Nat.reduceSub, Nat.reduceMul, Nat.reduceLT, Nat.reduceLeDiff, reduceCtorEq]) (by decide) (by simp -dsimp (disch := first | assumption | (refine OM.mk ?_; first | omega | (simp only [List.length_map, List.length_set, List.length_take] <;> omega)) | (simp -dsimp only [go_sem]; done) | fail) only [go_sem, ↓reduceIte, Nat.reduceEqDiff, Nat.reduceAdd, Nat.reduceSub, Nat.reduceMul, Nat.reduceLT, Nat.reduceLeDiff, reduceCtorEq, a_eq, a_neq, a_cast0, a_pred, a_app1, a_zero, Int.reduceToNat]) (by simp -dsimp (disch := first | assumption | (refine OM.mk ?_; first | omega | (simp only [List.length_map, List.length_set, List.length_take] <;> omega)) | (simp -dsimp only [go_sem]; done) | fail) only [go_sem, ↓reduceIte, Nat.reduceEqDiff, Nat.reduceAdd, Nat.reduceSub, Nat.reduceMul, Nat.reduceLT, Nat.reduceLeDiff, reduceCtorEq, a_eq, a_neq, a_cast0, a_pred, a_app1, a_zero, Int.reduceToNat])⟩
              · rw [decide_eq_false hlt] at hBi
                simp -dsimp (disch := first | assumption | (refine OM.mk ?_; first | omega | (simp only [List.length_map, List.length_set, List.length_take] <;> omega)) | (simp -dsimp only [go_sem]; done) | fail) only [go_sem, ↓reduceIte, Nat.reduceEqDiff, Nat.reduceAdd, Nat.reduceSub, Nat.reduceMul, Nat.reduceLT, Nat.reduceLeDiff, reduceCtorEq, a_eq, a_neq, a_cast0, a_pred, a_app1, a_zero, Int.reduceToNat,  hlt]
                exact (rng_no' (k := i) (by omega) hBi).symm
          · obtain rfl : i = p.rows.toNat := by omega
            simp -dsimp (disch := first | assumption | (refine OM.mk ?_; first | omega | (simp only [List.length_map, List.length_set, List.length_take] <;> omega)) | (simp -dsimp only [go_sem]; done) | fail) only [go_sem, ↓reduceIte, Nat.reduceEqDiff, Nat.reduceAdd, Nat.reduceSub, Nat.reduceMul, Nat.reduceLT, Nat.reduceLeDiff, reduceCtorEq, a_eq, a_neq, a_cast0, a_pred, a_app1, a_zero, Int.reduceToNat]
            exact hpi.symm
    · rw [decide_eq_false h2, Bool.and_false, Bool.false_and, Bool.false_and, Bool.false_and]
      simp -dsimp (disch := first | assumption | (refine OM.mk ?_; first | omega | (simp only [List.length_map, List.length_set, List.length_take] <;> omega)) | (simp -dsimp only [go_sem]; done) | fail) only [go_sem, ↓reduceIte, Nat.reduceEqDiff, Nat.reduceAdd, Nat.reduceSub, Nat.reduceMul, Nat.reduceLT, Nat.reduceLeDiff, reduceCtorEq, a_eq, a_neq, a_cast0, a_pred, a_app1, a_zero, Int.reduceToNat,  pC]
      refine callP hP (by simp -dsimp (disch := first | assumption | (refine OM.mk ?_; first | omega | (simp only [List.length_map, List.length_set, List.length_take] <;> omega)) | (simp -dsimp only [go_sem]; done) | fail) only [go_sem, ↓reduceIte, Nat.reduceEqDiff, Nat.reduceAdd, Nat.reduceSub, Nat.reduceMul, Nat.reduceLT, Nat.reduceLeDiff, reduceCtorEq, a_eq, a_neq, a_cast0, a_pred, a_app1, a_zero, Int.reduceToNat,  pC]) ?_
      simp -dsimp (disch := first | assumption | (refine OM.mk ?_; first | omega | (simp only [List.length_map, List.length_set, List.length_take] <;> omega)) | (simp -dsimp only [go_sem]; done) | fail) only [go_sem, ↓reduceIte, Nat.reduceEqDiff, Nat.reduceAdd, Nat.reduceSub, Nat.reduceMul, Nat.reduceLT, Nat.reduceLeDiff, reduceCtorEq, a_eq, a_neq, a_cast0, a_pred, a_app1, a_zero, Int.reduceToNat,  h2]
theorem cmp_zero {x : FQ} : x.cmp (FQ.ofInt 0) < 0 ↔ x.num < 0 := by
  unfold FQ.cmp
  rw [ofInt_num (by decide), ofInt_den (by decide)]
  unfold cmpZ
  have e1 : x.num * ((1 : Nat) : Int) = x.num := by omega
  have e2 : (0 : Int) * (x.den : Int) = 0 := Int.zero_mul _
  rw [e1, e2]
  split
  · omega
  · split <;> omega
noncomputable def farkB (p : Prg) (l : List RD) : Bool := (bndQ p l).good && decide ((bndQ p l).num < 0) && colsB p (l.map rdq) (fun _ => 0)
theorem spec_IsFarkas_c (f g : Fl) (hf : f ≠ .u) (hg : g ≠ .u) (p : Prg) (l : List RD) (hp : p.small) (hl : smallL l) : PC PP F_spec_IsFarkas [pV f p, sR g l] (Bo (farkB p l)) [] := by
  have h1 := hl.1
  unfold farkB
  refine tx W_spec_IsFarkas ke_spec_IsFarkas [] (by kernel_rfl) ?_
  have hN := spec_BoundAt_c f g hf hg p l hp hl
  have hT := spec_RatSign_c .s fls (qd (bndQ p l)) (qd_small _)
  rw [rdq_qd] at hT
  cases hv : validX p l p.rows
  · have e : bndQ p l = FQ.bad := by unfold bndQ; rw [if_neg (by rw [hv]; simp)]
    rw [e] at hN hT ⊢
    rw [show FQ.bad.good = false from rfl, Bool.false_and, Bool.false_and]
    rw [toS_bad] at hN
    simp -dsimp (disch := first | assumption | (refine OM.mk ?_; first | omega | (simp only [List.length_map, List.length_set, List.length_take] <;> omega)) | (simp -dsimp only [go_sem]; done) | fail) only [go_sem, ↓reduceIte, Nat.reduceEqDiff, Nat.reduceAdd, Nat.reduceSub, Nat.reduceMul, Nat.reduceLT, Nat.reduceLeDiff, reduceCtorEq, a_eq, a_neq, a_cast0, a_pred, a_app1, a_zero, Int.reduceToNat,  pC]
    refine callP hN (by simp -dsimp (disch := first | assumption | (refine OM.mk ?_; first | omega | (simp only [List.length_map, List.length_set, List.length_take] <;> omega)) | (simp -dsimp only [go_sem]; done) | fail) only [go_sem, ↓reduceIte, Nat.reduceEqDiff, Nat.reduceAdd, Nat.reduceSub, Nat.reduceMul, Nat.reduceLT, Nat.reduceLeDiff, reduceCtorEq, a_eq, a_neq, a_cast0, a_pred, a_app1, a_zero, Int.reduceToNat,  pC]) ?_
    simp -dsimp (disch := first | assumption | (refine OM.mk ?_; first | omega | (simp only [List.length_map, List.length_set, List.length_take] <;> omega)) | (simp -dsimp only [go_sem]; done) | fail) only [go_sem, ↓reduceIte, Nat.reduceEqDiff, Nat.reduceAdd, Nat.reduceSub, Nat.reduceMul, Nat.reduceLT, Nat.reduceLeDiff, reduceCtorEq, a_eq, a_neq, a_cast0, a_pred, a_app1, a_zero, Int.reduceToNat]
  · unfold validX at hv
    simp only [Bool.and_eq_true, decide_eq_true_eq] at hv
    obtain ⟨⟨ho, h2⟩, ha⟩ := hv
    generalize bndQ p l = Z at *
    cases hzg : Z.good
    · rw [Bool.false_and, Bool.false_and]
      unfold toS at hN
      rw [hzg] at hN
      simp -dsimp (disch := first | assumption | (refine OM.mk ?_; first | omega | (simp only [List.length_map, List.length_set, List.length_take] <;> omega)) | (simp -dsimp only [go_sem]; done) | fail) only [go_sem, ↓reduceIte, Nat.reduceEqDiff, Nat.reduceAdd, Nat.reduceSub, Nat.reduceMul, Nat.reduceLT, Nat.reduceLeDiff, reduceCtorEq, a_eq, a_neq, a_cast0, a_pred, a_app1, a_zero, Int.reduceToNat,  pC]
      refine callP hN (by simp -dsimp (disch := first | assumption | (refine OM.mk ?_; first | omega | (simp only [List.length_map, List.length_set, List.length_take] <;> omega)) | (simp -dsimp only [go_sem]; done) | fail) only [go_sem, ↓reduceIte, Nat.reduceEqDiff, Nat.reduceAdd, Nat.reduceSub, Nat.reduceMul, Nat.reduceLT, Nat.reduceLeDiff, reduceCtorEq, a_eq, a_neq, a_cast0, a_pred, a_app1, a_zero, Int.reduceToNat,  pC]) ?_
      simp -dsimp (disch := first | assumption | (refine OM.mk ?_; first | omega | (simp only [List.length_map, List.length_set, List.length_take] <;> omega)) | (simp -dsimp only [go_sem]; done) | fail) only [go_sem, ↓reduceIte, Nat.reduceEqDiff, Nat.reduceAdd, Nat.reduceSub, Nat.reduceMul, Nat.reduceLT, Nat.reduceLeDiff, reduceCtorEq, a_eq, a_neq, a_cast0, a_pred, a_app1, a_zero, Int.reduceToNat]
    · unfold toS at hN
      rw [hzg] at hN
      by_cases hn : Z.num < 0
      · have hn' : ¬ 0 ≤ sgZ Z.num := by have := sg_lt.2 hn; omega
        rw [decide_eq_true hn, Bool.true_and, Bool.true_and]
        have hC := fun j => l09Column_c f hf p j ho
        have hS := fun j => @sml_col p j ho
        obtain ⟨⟨r1, r2⟩, ⟨c1, c2⟩, hal, hbl, hcl, ia, ib, ic⟩ := okP_spec ho
        obtain ⟨x, hx, ex, gx⟩ := all_list' ha
        have hxl : x.length = l.length := by rw [hx, List.length_map]
        rw [ex]
        have hQ : ∀ j : Nat, (j : Int) < p.cols → PC PP F_spec_l09Sum [sI .s (colL p j), sR g l] (toS (wSum (colL p j) x)) [] := fun j hj => by
          rw [hx]
          exact l09Sum_c .s g fls hg (colL p j) x (by rw [colL_length]; omega) (by omega) (hS j hj)
        have hB : ∀ j, colB p x (fun _ => 0) j = ((wSum (colL p j) x).good && !decide ((wSum (colL p j) x).num < 0)) := fun j => by
          unfold colB
          rw [show decide ((wSum (colL p j) x).cmp (FQ.ofInt 0) < 0) = decide ((wSum (colL p j) x).num < 0) from decide_eq_decide.2 cmp_zero]
        unfold colsB
        generalize colB p x (fun _ => 0) = B at *
        simp -dsimp (disch := first | assumption | (refine OM.mk ?_; first | omega | (simp only [List.length_map, List.length_set, List.length_take] <;> omega)) | (simp -dsimp only [go_sem]; done) | fail) only [go_sem, ↓reduceIte, Nat.reduceEqDiff, Nat.reduceAdd, Nat.reduceSub, Nat.reduceMul, Nat.reduceLT, Nat.reduceLeDiff, reduceCtorEq, a_eq, a_neq, a_cast0, a_pred, a_app1, a_zero, Int.reduceToNat,  pC]
        refine callP hN (by simp -dsimp (disch := first | assumption | (refine OM.mk ?_; first | omega | (simp only [List.length_map, List.length_set, List.length_take] <;> omega)) | (simp -dsimp only [go_sem]; done) | fail) only [go_sem, ↓reduceIte, Nat.reduceEqDiff, Nat.reduceAdd, Nat.reduceSub, Nat.reduceMul, Nat.reduceLT, Nat.reduceLeDiff, reduceCtorEq, a_eq, a_neq, a_cast0, a_pred, a_app1, a_zero, Int.reduceToNat,  pC]) ?_
        simp -dsimp (disch := first | assumption | (refine OM.mk ?_; first | omega | (simp only [List.length_map, List.length_set, List.length_take] <;> omega)) | (simp -dsimp only [go_sem]; done) | fail) only [go_sem, ↓reduceIte, Nat.reduceEqDiff, Nat.reduceAdd, Nat.reduceSub, Nat.reduceMul, Nat.reduceLT, Nat.reduceLeDiff, reduceCtorEq, a_eq, a_neq, a_cast0, a_pred, a_app1, a_zero, Int.reduceToNat]
        refine callP hT (by simp -dsimp (disch := first | assumption | (simp -dsimp only [go_sem]; done) | fail) only [go_sem]) ?_
        simp -dsimp (disch := first | assumption | (refine OM.mk ?_; first | omega | (simp only [List.length_map, List.length_set, List.length_take] <;> omega)) | (simp -dsimp only [go_sem]; done) | fail) only [go_sem, ↓reduceIte, Nat.reduceEqDiff, Nat.reduceAdd, Nat.reduceSub, Nat.reduceMul, Nat.reduceLT, Nat.reduceLeDiff, reduceCtorEq, a_eq, a_neq, a_cast0, a_pred, a_app1, a_zero, Int.reduceToNat]
        refine loopJ (fun j : Nat => j ≤ p.cols.toNat ∧ (List.range j).all B = true) (fun j => ⟨[(1, sR g l), (2, .ref 0 0), (7, I j)], [⟨.own, T_impl_Program, [I p.rows, I p.cols, sI f p.a, sI f p.b, sI f p.c]⟩]⟩) (fun j => p.cols.toNat - j) 0 ⟨by omega, rfl⟩ ?_ ?_
        · exact StI.ren [some 0] [[]] (by simp -dsimp only [go_sem, ↓reduceIte, Nat.reduceEqDiff, Nat.reduceAdd, Nat.reduceSub, Nat.reduceMul, Nat.reduceLT, Nat.reduceLeDiff, reduceCtorEq]) (by decide) (by simp -dsimp (disch := first | assumption | (refine OM.mk ?_; first | omega | (simp only [List.length_map, List.length_set, List.length_take] <;> omega)) | (simp -dsimp only [go_sem]; done) | fail) only [go_sem, ↓reduceIte, Nat.reduceEqDiff, Nat.reduceAdd, Nat.reduceSub, Nat.reduceMul, Nat.reduceLT, Nat.reduceLeDiff, reduceCtorEq, a_eq, a_neq, a_cast0, a_pred, a_app1, a_zero, Int.reduceToNat]) (by simp -dsimp (disch := first | assumption | (refine OM.mk ?_; first | omega | (simp only [List.length_map, List.length_set, List.length_take] <;> omega)) | (simp -dsimp only [go_sem]; done) | fail) only [go_sem, ↓reduceIte, Nat.reduceEqDiff, Nat.reduceAdd, Nat.reduceSub, Nat.reduceMul, Nat.reduceLT, Nat.reduceLeDiff, reduceCtorEq, a_eq, a_neq, a_cast0, a_pred, a_app1, a_zero, Int.reduceToNat])
        rintro j ⟨hj, hpj⟩
        by_cases h : (j : Int) < p.cols
        · have hCj := hC j ⟨by omega, h⟩
          rw [show ((j : Int).toNat) = j by omega] at hCj
          have hQj := hQ j h
          have hBj := hB j
          have q2 := spec_RatSign_c .s fls (qd (wSum (colL p j) x)) (qd_small _)
          rw [rdq_qd] at q2
          generalize wSum (colL p j) x = S at *
          simp -dsimp (disch := first | assumption | (refine OM.mk ?_; first | omega | (simp only [List.length_map, List.length_set, List.length_take] <;> omega)) | (simp -dsimp only [go_sem]; done) | fail) only [go_sem, ↓reduceIte, Nat.reduceEqDiff, Nat.reduceAdd, Nat.reduceSub, Nat.reduceMul, Nat.reduceLT, Nat.reduceLeDiff, reduceCtorEq, a_eq, a_neq, a_cast0, a_pred, a_app1, a_zero, Int.reduceToNat]
          refine callP hCj (by simp -dsimp (disch := first | assumption | (refine OM.mk ?_; first | omega | (simp only [List.length_map, List.length_set, List.length_take] <;> omega)) | (simp -dsimp only [go_sem]; done) | fail) only [go_sem, ↓reduceIte, Nat.reduceEqDiff, Nat.reduceAdd, Nat.reduceSub, Nat.reduceMul, Nat.reduceLT, Nat.reduceLeDiff, reduceCtorEq, a_eq, a_neq, a_cast0, a_pred, a_app1, a_zero, Int.reduceToNat,  pC]) ?_
          simp -dsimp (disch := first | assumption | (refine OM.mk ?_; first | omega | (simp only [List.length_map, List.length_set, List.length_take] <;> omega)) | (simp -dsimp only [go_sem]; done) | fail) only [go_sem, ↓reduceIte, Nat.reduceEqDiff, Nat.reduceAdd, Nat.reduceSub, Nat.reduceMul, Nat.reduceLT, Nat.reduceLeDiff, reduceCtorEq, a_eq, a_neq, a_cast0, a_pred, a_app1, a_zero, Int.reduceToNat]
          refine callP hQj (by simp -dsimp (disch := first | assumption | (simp -dsimp only [go_sem]; done) | fail) only [go_sem]) ?_
          cases hgd : S.good
          · rw [hgd, Bool.false_and] at hBj
            simp -dsimp (disch := first | assumption | (refine OM.mk ?_; first | omega | (simp only [List.length_map, List.length_set, List.length_take] <;> omega)) | (simp -dsimp only [go_sem]; done) | fail) only [go_sem, ↓reduceIte, Nat.reduceEqDiff, Nat.reduceAdd, Nat.reduceSub, Nat.reduceMul, Nat.reduceLT, Nat.reduceLeDiff, reduceCtorEq, a_eq, a_neq, a_cast0, a_pred, a_app1, a_zero, Int.reduceToNat,  hgd]
            exact (rng_no' (k := j) (by omega) hBj).symm
          · rw [hgd, Bool.true_and] at hBj
            simp -dsimp (disch := first | assumption | (refine OM.mk ?_; first | omega | (simp only [List.length_map, List.length_set, List.length_take] <;> omega)) | (simp -dsimp only [go_sem]; done) | fail) only [go_sem, ↓reduceIte, Nat.reduceEqDiff, Nat.reduceAdd, Nat.reduceSub, Nat.reduceMul, Nat.reduceLT, Nat.reduceLeDiff, reduceCtorEq, a_eq, a_neq, a_cast0, a_pred, a_app1, a_zero, Int.reduceToNat,  hgd]
            refine callP q2 (by simp -dsimp (disch := first | assumption | (simp -dsimp only [go_sem]; done) | fail) only [go_sem]) ?_
            by_cases hlt : S.num < 0
            · have hlt' := sg_lt.2 hlt
              rw [decide_eq_true hlt] at hBj
              simp -dsimp (disch := first | assumption | (refine OM.mk ?_; first | omega | (simp only [List.length_map, List.length_set, List.length_take] <;> omega)) | (simp -dsimp only [go_sem]; done) | fail) only [go_sem, ↓reduceIte, Nat.reduceEqDiff, Nat.reduceAdd, Nat.reduceSub, Nat.reduceMul, Nat.reduceLT, Nat.reduceLeDiff, reduceCtorEq, a_eq, a_neq, a_cast0, a_pred, a_app1, a_zero, Int.reduceToNat]
              exact (rng_no' (k := j) (by omega) hBj).symm
            · have hlt' : ¬ sgZ S.num < 0 := fun h => hlt (sg_lt.1 h)
              rw [decide_eq_false hlt] at hBj
              simp -dsimp (disch := first | assumption | (refine OM.mk ?_; first | omega | (simp only [List.length_map, List.length_set, List.length_take] <;> omega)) | (simp -dsimp only [go_sem]; done) | fail) only [go_sem, ↓reduceIte, Nat.reduceEqDiff, Nat.reduceAdd, Nat.reduceSub, Nat.reduceMul, Nat.reduceLT, Nat.reduceLeDiff, reduceCtorEq, a_eq, a_neq, a_cast0, a_pred, a_app1, a_zero, Int.reduceToNat]
              exact ⟨j + 1, ⟨by omega, rng_step' hpj hBj⟩, by omega, StI.ren [some 0] [[]] (by simp -dsimp only [go_sem, ↓reduceIte, Nat.reduceEqDiff, Nat.reduceAdd, Nat.reduceSub, Nat.reduceMul, Nat.reduceLT, Nat.reduceLeDiff, reduceCtorEq]) (by decide) (by simp -dsimp (disch := first | assumption | (refine OM.mk ?_; first | omega | (simp only [List.length_map, List.length_set, List.length_take] <;> omega)) | (simp -dsimp only [go_sem]; done) | fail) only [go_sem, ↓reduceIte, Nat.reduceEqDiff, Nat.reduceAdd, Nat.reduceSub, Nat.reduceMul, Nat.reduceLT, Nat.reduceLeDiff, reduceCtorEq, a_eq, a_neq, a_cast0, a_pred, a_app1, a_zero, Int.reduceToNat]) (by simp -dsimp (disch := first | assumption | (refine OM.mk ?_; first | omega | (simp only [List.length_map, List.length_set, List.length_take] <;> omega)) | (simp -dsimp only [go_sem]; done) | fail) only [go_sem, ↓reduceIte, Nat.reduceEqDiff, Nat.reduceAdd, Nat.reduceSub, Nat.reduceMul, Nat.reduceLT, Nat.reduceLeDiff, reduceCtorEq, a_eq, a_neq, a_cast0, a_pred, a_app1, a_zero, Int.reduceToNat])⟩
        · obtain rfl : j = p.cols.toNat := by omega
          simp -dsimp (disch := first | assumption | (refine OM.mk ?_; first | omega | (simp only [List.length_map, List.length_set, List.length_take] <;> omega)) | (simp -dsimp only [go_sem]; done) | fail) only [go_sem, ↓reduceIte, Nat.reduceEqDiff, Nat.reduceAdd, Nat.reduceSub, Nat.reduceMul, Nat.reduceLT, Nat.reduceLeDiff, reduceCtorEq, a_eq, a_neq, a_cast0, a_pred, a_app1, a_zero, Int.reduceToNat]
          exact hpj.symm
      · have hn' : 0 ≤ sgZ Z.num := by
          have := mt sg_lt.1 hn
          omega
        rw [decide_eq_false hn, Bool.and_false, Bool.false_and]
        simp -dsimp (disch := first | assumption | (refine OM.mk ?_; first | omega | (simp only [List.length_map, List.length_set, List.length_take] <;> omega)) | (simp -dsimp only [go_sem]; done) | fail) only [go_sem, ↓reduceIte, Nat.reduceEqDiff, Nat.reduceAdd, Nat.reduceSub, Nat.reduceMul, Nat.reduceLT, Nat.reduceLeDiff, reduceCtorEq, a_eq, a_neq, a_cast0, a_pred, a_app1, a_zero, Int.reduceToNat,  pC]
        refine callP hN (by simp -dsimp (disch := first | assumption | (refine OM.mk ?_; first | omega | (simp only [List.length_map, List.length_set, List.length_take] <;> omega)) | (simp -dsimp only [go_sem]; done) | fail) only [go_sem, ↓reduceIte, Nat.reduceEqDiff, Nat.reduceAdd, Nat.reduceSub, Nat.reduceMul, Nat.reduceLT, Nat.reduceLeDiff, reduceCtorEq, a_eq, a_neq, a_cast0, a_pred, a_app1, a_zero, Int.reduceToNat,  pC]) ?_
        simp -dsimp (disch := first | assumption | (refine OM.mk ?_; first | omega | (simp only [List.length_map, List.length_set, List.length_take] <;> omega)) | (simp -dsimp only [go_sem]; done) | fail) only [go_sem, ↓reduceIte, Nat.reduceEqDiff, Nat.reduceAdd, Nat.reduceSub, Nat.reduceMul, Nat.reduceLT, Nat.reduceLeDiff, reduceCtorEq, a_eq, a_neq, a_cast0, a_pred, a_app1, a_zero, Int.reduceToNat]
        refine callP hT (by simp -dsimp (disch := first | assumption | (simp -dsimp only [go_sem]; done) | fail) only [go_sem]) ?_
        simp -dsimp (disch := first | assumption | (refine OM.mk ?_; first | omega | (simp only [List.length_map, List.length_set, List.length_take] <;> omega)) | (simp -dsimp only [go_sem]; done) | fail) only [go_sem, ↓reduceIte, Nat.reduceEqDiff, Nat.reduceAdd, Nat.reduceSub, Nat.reduceMul, Nat.reduceLT, Nat.reduceLeDiff, reduceCtorEq, a_eq, a_neq, a_cast0, a_pred, a_app1, a_zero, Int.reduceToNat]
end Go.Proofs.YtikmepdhpffdoaaGreat
