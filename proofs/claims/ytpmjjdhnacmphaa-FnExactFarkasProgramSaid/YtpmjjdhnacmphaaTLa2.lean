/- part of the proof -/
import Derived.Test.YtpmjjdhnacmphaaTGa
namespace Go.Proofs.Ytpmjjdhnacmphaa
open Go Go.RowKit
set_option maxRecDepth 100000
set_option linter.unusedVariables false
set_option linter.unusedSimpArgs false
def colL (p : Prg) (j : Nat) : List Int := (List.range p.rows.toNat).map fun i : Nat => p.a.getD ((i : Int) * p.cols + j).toNat 0
theorem colL_length {p : Prg} {j : Nat} : (colL p j).length = p.rows.toNat := by simp [colL]
theorem colL_succ {p : Prg} {j i : Nat} (h : i < p.rows.toNat) : (colL p j).take (i + 1) = (colL p j).take i ++ [p.a.getD ((i : Int) * p.cols + j).toNat 0] := by
  rw [List.take_succ_eq_append_getElem (by rw [colL_length]; exact h)]
  simp [colL]
theorem okP_spec {p : Prg} (h : okP' p = true) : (0 ≤ p.rows ∧ p.rows ≤ 20) ∧ (0 ≤ p.cols ∧ p.cols ≤ 40) ∧ (p.a.length : Int) = p.rows * p.cols ∧ (p.b.length : Int) = p.rows ∧ (p.c.length : Int) = p.cols ∧ inB (-100) 100 p.a = true ∧ inB (-100) 100 p.b = true ∧ inB (-100) 100 p.c = true := by
  simpa [okP', and_assoc] using h
theorem ix_rng {i : Nat} {j r c : Int} (h : (i : Int) < r) (r2 : r ≤ 20) (c1 : 0 ≤ c) (c2 : c ≤ 40) (hj : 0 ≤ j ∧ j < c) : 0 ≤ (i : Int) * c ∧ (i : Int) * c + j < r * c ∧ r * c ≤ 800 := by
  have q1 : 0 ≤ (i : Int) * c := Int.mul_nonneg (by omega) c1
  have q2 : ((i : Int) + 1) * c ≤ r * c := Int.mul_le_mul_of_nonneg_right (by omega) c1
  rw [Int.add_mul, Int.one_mul] at q2
  have q3 : r * c ≤ 20 * 40 := Int.mul_le_mul r2 c2 c1 (by omega)
  omega
theorem l09Column_c (f : Fl) (hf : f ≠ .u) (p : Prg) (j : Int) (ho : okP' p = true) (hj : 0 ≤ j ∧ j < p.cols) : PC PP F_spec_l09Column [pV f p, I j] (sI .s (colL p j.toNat)) [] := by
  obtain ⟨⟨r1, r2⟩, ⟨c1, c2⟩, hal, _⟩ := okP_spec ho
  have hll := colL_length (p := p) (j := j.toNat)
  have hls := @colL_succ p j.toNat
  obtain ⟨r, c, la, lb, lc⟩ := p
  simp only at *
  generalize hC : colL ⟨r, c, la, lb, lc⟩ j.toNat = C at *
  refine tx W_spec_l09Column ke_spec_l09Column [] (by kernel_rfl) ?_
  simp only [pV, pC]
  simp -dsimp only [go_sem,↓reduceIte,Nat.reduceEqDiff,Nat.reduceAdd,Nat.reduceSub,Nat.reduceMul,Nat.reduceLT,Nat.reduceLeDiff,reduceCtorEq, hf]
  refine loopJ (fun i : Nat => (i : Int) ≤ r) (fun i => ⟨[(1, I j), (2, .ref 0 0), (5, .rsl 1 1 0 i), (6, I i)], [⟨.own, T_impl_Program, [I r, I c, sI f la, sI f lb, sI f lc]⟩, ⟨.own, T_int, iC (C.take i)⟩]⟩) (fun i => r.toNat - i) 0 (by omega) ?_ ?_
  · exact StI.ren [some 0, none] [[], []] lE (by decide) (by simp -dsimp only [go_sem,↓reduceIte,Nat.reduceEqDiff,Nat.reduceAdd,Nat.reduceSub,Nat.reduceMul,Nat.reduceLT,Nat.reduceLeDiff,reduceCtorEq]; simp [iC]) (by simp -dsimp only [go_sem,↓reduceIte,Nat.reduceEqDiff,Nat.reduceAdd,Nat.reduceSub,Nat.reduceMul,Nat.reduceLT,Nat.reduceLeDiff,reduceCtorEq]; rfl)
  intro i hi
  simp -dsimp only [go_sem,↓reduceIte,Nat.reduceEqDiff,Nat.reduceAdd,Nat.reduceSub,Nat.reduceMul,Nat.reduceLT,Nat.reduceLeDiff,reduceCtorEq, hf]
  refine ⟨fun h => ?_, fun h => ?_⟩
  · obtain ⟨q1, q2, q3⟩ := ix_rng h r2 c1 c2 hj
    rw [w64 (n := (i : Int) * c) (by omega), w64 (n := (i : Int) * c + j) (by omega)]
    have hlt : ((i : Int) * c + j).toNat < la.length := by omega
    refine ⟨by omega, by omega, by omega, ?_⟩
    rw [iC_get hlt]
    simp -dsimp only [go_sem,↓reduceIte,Nat.reduceEqDiff,Nat.reduceAdd,Nat.reduceSub,Nat.reduceMul,Nat.reduceLT,Nat.reduceLeDiff,reduceCtorEq]
    refine ⟨by omega, by omega, i + 1, by omega, by omega, ?_⟩
    refine StI.ren [some 0, some 2] [[], []] lE (by decide) ?_ ?_
    · simp -dsimp only [go_sem,↓reduceIte,Nat.reduceEqDiff,Nat.reduceAdd,Nat.reduceSub,Nat.reduceMul,Nat.reduceLT,Nat.reduceLeDiff,reduceCtorEq]
      rw [iC_one, iC_append, hls (by omega), show (j.toNat : Int) = j by omega]
      exact RnL.lits
    · simp -dsimp only [go_sem,↓reduceIte,Nat.reduceEqDiff,Nat.reduceAdd,Nat.reduceSub,Nat.reduceMul,Nat.reduceLT,Nat.reduceLeDiff,reduceCtorEq]
      rw [w64 (by omega)]; omega
  · have : i = r.toNat := by omega
    subst this
    exact Le.ownI0 (ty := T_int) (by simp [List.take_of_length_le, hll]) (by rw [hll])
theorem impl_column_c (f : Fl) (hf : f ≠ .u) (p : Prg) (j : Int) (ho : okP' p = true) (hj : 0 ≤ j ∧ j < p.cols) : GC PP F_impl_Program_column [.ptr .b (pC f p), I j] [] (.rsl 0 1 0 (colL p j.toNat).length) [⟨.own, T_int, iC (colL p j.toNat)⟩] := by
  obtain ⟨⟨r1, r2⟩, ⟨c1, c2⟩, hal, _⟩ := okP_spec ho
  have hll := colL_length (p := p) (j := j.toNat)
  have hls := @colL_succ p j.toNat
  obtain ⟨r, c, la, lb, lc⟩ := p
  simp only at *
  generalize hC : colL ⟨r, c, la, lb, lc⟩ j.toNat = C at *
  refine txg W_impl_Program_column ke_impl_Program_column 0 [] [] [] rfl (by kernel_rfl) ?_
  simp only [pC]
  simp -dsimp only [go_sem,↓reduceIte,Nat.reduceEqDiff,Nat.reduceAdd,Nat.reduceSub,Nat.reduceMul,Nat.reduceLT,Nat.reduceLeDiff,reduceCtorEq, hf]
  refine ⟨by omega, by omega, by omega, ?_⟩
  rw [iC_zero]
  refine loopI (fun i : Nat => (i : Int) ≤ r) (fun i => ⟨[(0, .ptr .b [I r, I c, sI f la, sI f lb, sI f lc]), (1, I j), (5, .rsl 0 1 0 r.toNat), (13, I r), (14, I i)], [⟨.own, T_int, iC (C.take i ++ List.replicate (r.toNat - i) 0)⟩]⟩) (fun i => r.toNat - i) 0 (by omega) ?_ ?_
  · simp -dsimp only [go_sem,↓reduceIte,Nat.reduceEqDiff,Nat.reduceAdd,Nat.reduceSub,Nat.reduceMul,Nat.reduceLT,Nat.reduceLeDiff,reduceCtorEq]
    simp; omega
  intro i hi
  simp -dsimp only [go_sem,↓reduceIte,Nat.reduceEqDiff,Nat.reduceAdd,Nat.reduceSub,Nat.reduceMul,Nat.reduceLT,Nat.reduceLeDiff,reduceCtorEq, hf]
  refine ⟨fun h => ?_, fun h => ?_⟩
  · obtain ⟨q1, q2, q3⟩ := ix_rng h r2 c1 c2 hj
    rw [w64 (n := (i : Int) * c) (by omega), w64 (n := (i : Int) * c + j) (by omega)]
    have hlt : ((i : Int) * c + j).toNat < la.length := by omega
    refine ⟨by omega, by omega, by omega, ?_⟩
    rw [iC_get hlt]
    simp -dsimp only [go_sem,↓reduceIte,Nat.reduceEqDiff,Nat.reduceAdd,Nat.reduceSub,Nat.reduceMul,Nat.reduceLT,Nat.reduceLeDiff,reduceCtorEq]
    have hl2 : (C.take i ++ List.replicate (r.toNat - i) 0).length = r.toNat := by simp [hll]; omega
    refine ⟨by omega, by omega, by rw [List.length_replicate]; omega, i + 1, by omega, by omega, by rw [w64 (by omega)]; omega, ?_⟩
    rw [iC_set (by rw [hl2]; omega), vkL_iC]
    have e := hls (i := i) (by omega)
    rw [show (j.toNat : Int) = j by omega] at e
    rw [e, List.set_append_right _ _ (by rw [List.length_take]; omega), List.length_take, Nat.min_eq_left (by omega), Nat.sub_self, show r.toNat - i = (r.toNat - (i + 1)) + 1 by omega, List.replicate_succ, List.set_cons_zero, List.append_assoc]; rfl
  · have : i = r.toNat := by omega
    subst this
    rw [Nat.sub_self, List.replicate_zero, List.append_nil, List.take_of_length_le (by omega), hll]
    exact RtG.nothing [some 0] lE (by decide) lS lE
end Go.Proofs.Ytpmjjdhnacmphaa
