/- part of the proof -/
import Derived.Test.YtikmepdhpffdoaaGreatTXo
namespace Go.Proofs.YtikmepdhpffdoaaGreat
open Go Go.RowKit
set_option maxRecDepth 100000
set_option maxHeartbeats 4000000
set_option linter.unusedVariables false
set_option linter.unusedSimpArgs false
theorem l05Div_c (f g : Fl) (hf : f ≠ .u) (hg : g ≠ .u) (x y : FQ) : PC PP F_spec_l05Div [rV f (qd x), rV g (qd y)] (rV .s (qd (x.div y))) [] := by
  refine tx W_spec_l05Div ke_spec_l05Div [] (by kernel_rfl) ?_
  have h1 := x.num_le
  have h2 := x.den_le
  have h3 := y.num_le
  have h4 := y.den_le
  have e := div_low x y
  have e1 : ∀ z, qd z = ⟨zb z.num, lim z.num.natAbs, lim z.den⟩ := fun _ => rfl
  rw [e1 x, e1 y]
  have m1 := mul_len h1 h4
  have m3 := mul_len h2 h3
  simp -dsimp(disch:=first|exact om|fail)only[go_sem,↓reduceIte,Nat.reduceEqDiff,Nat.reduceAdd,Nat.reduceSub,Nat.reduceMul,Nat.reduceLT,Nat.reduceLeDiff,reduceCtorEq,a_eq,a_neq,a_cast0,a_pred,a_app1,a_zero,Int.reduceToNat]
  refine callP (l02Mul_c f g hf hg x.num.natAbs y.den (by omega) (by omega)) lL ?_
  simp -dsimp(disch:=first|exact om|fail)only[go_sem,↓reduceIte,Nat.reduceEqDiff,Nat.reduceAdd,Nat.reduceSub,Nat.reduceMul,Nat.reduceLT,Nat.reduceLeDiff,reduceCtorEq,a_eq,a_neq,a_cast0,a_pred,a_app1,a_zero,Int.reduceToNat]
  refine callP (l02Mul_c f g hf hg x.den y.num.natAbs (by omega) (by omega)) lL ?_
  simp -dsimp(disch:=first|exact om|fail)only[go_sem,↓reduceIte,Nat.reduceEqDiff,Nat.reduceAdd,Nat.reduceSub,Nat.reduceMul,Nat.reduceLT,Nat.reduceLeDiff,reduceCtorEq,a_eq,a_neq,a_cast0,a_pred,a_app1,a_zero,Int.reduceToNat]
  refine callP (l04Low_c (zb x.num != zb y.num) (x.num.natAbs * y.den) (x.den * y.num.natAbs) (by omega) (by omega)) lL ?_
  rw [e]
  simp -dsimp(disch:=first|exact om|fail)only[go_sem,↓reduceIte,Nat.reduceEqDiff,Nat.reduceAdd,Nat.reduceSub,Nat.reduceMul,Nat.reduceLT,Nat.reduceLeDiff,reduceCtorEq,a_eq,a_neq,a_cast0,a_pred,a_app1,a_zero,Int.reduceToNat]
theorem gcs_get {n c i j : Nat} {N : Nat → Nat → FQ} (hi : i < n) (hj : j < c) : ((gridL n c N).map qd).getD (i * c + j) RD.zero = qd (N i j) := by
  rw [getD_map_qd (OM.mk (by rw [gridL_length]; exact ix_lt hi hj)), gridL_getD hi hj]
theorem l06At_s (n c : Nat) (hnc : n * c ≤ 2000) (N : Nat → Nat → FQ) (i j : Nat) (hi : i < n) (hj : j < c) :
    PC PP F_spec_l06At [.agg [I n, I c, .sl .b 3 (n * c) (rsC .s ((gridL n c N).map qd))], I i, I j] (rV .s (qd (N i j))) [] := by
  have h1 := ix_lt hi hj
  have e0 := gcs_get (N := N) hi hj
  have hl : ((gridL n c N).map qd).length = n * c := by rw [List.length_map, gridL_length]
  have hc1 : i * c ≤ n * c := Nat.mul_le_mul_right c (by omega)
  have hcc : c ≤ n * c := Nat.le_mul_of_pos_left c (by omega)
  have e1 : (i : Int) * (c : Int) = ((i * c : Nat) : Int) := by rw [Int.natCast_mul]
  have e2 : ((i * c : Nat) : Int) + (j : Int) = ((i * c + j : Nat) : Int) := by omega
  generalize hp : i * c + j = p at *
  generalize (gridL n c N).map qd = L at *
  have hin : i ≤ n * c := by
    have : i * 1 ≤ n * c := Nat.mul_le_mul (by omega) (by omega)
    omega
  refine tx W_spec_l06At ke_spec_l06At [] (by kernel_rfl) ?_
  simp -dsimp(disch:=first|exact om|fail)only[go_sem,↓reduceIte,Nat.reduceEqDiff,Nat.reduceAdd,Nat.reduceSub,Nat.reduceMul,Nat.reduceLT,Nat.reduceLeDiff,reduceCtorEq,a_eq,a_neq,a_cast0,a_pred,a_app1,a_zero,Int.reduceToNat, e1, e2, e0]
theorem le_ownSS {H : List Ob} {id n : Nat} {ty : TypeId} {L : List RD} (h : H[id]? = some ⟨.own, ty, rsC .s L⟩) (hl : L.length = n) : Le H .b (.rsl id 3 0 n) (.sl .b 3 n (rsC .s L)) := by
  subst hl
  have := Le.rsl (H := H) (f := .b) id 3 0 L.length ⟨.own, ty, rsC .s L⟩ (rsC .s L) h (.inl rfl) (by simp [rsC_length]) (by
    simp only [Nat.zero_mul, List.drop_zero]
    rw [List.take_of_length_le (by simp [rsC_length])]
    exact leL_rsC fun m => .sl _ _ _ _ _ _ (show FlLe .b .s .s from Or.inl rfl) LeL.lits)
  exact this
def upd2 (N : Nat → Nat → FQ) (i j : Nat) (x : FQ) : Nat → Nat → FQ := fun a b => if a = i ∧ b = j then x else N a b
theorem gridL_set {n c i j : Nat} {N : Nat → Nat → FQ} {x : FQ} (hi : i < n) (hj : j < c) : (gridL n c N).set (i * c + j) x = gridL n c (upd2 N i j x) := by
  refine gridL_ext (by rw [List.length_set, gridL_length]) fun a b ha hb => ?_
  unfold upd2
  rw [List.getD_eq_getElem?_getD]
  by_cases e : a = i ∧ b = j
  · obtain ⟨rfl, rfl⟩ := e
    rw [if_pos ⟨rfl, rfl⟩, List.getElem?_set_self (by rw [gridL_length]; exact ix_lt hi hj)]; rfl
  · rw [if_neg e]
    have hne : i * c + j ≠ a * c + b := by
      intro h
      apply e
      have hc : 0 < c := by omega
      have q1 : (i * c + j) / c = i := by rw [Nat.mul_comm, Nat.mul_add_div hc, Nat.div_eq_of_lt hj, Nat.add_zero]
      have q2 : (a * c + b) / c = a := by rw [Nat.mul_comm, Nat.mul_add_div hc, Nat.div_eq_of_lt hb, Nat.add_zero]
      have q3 : a = i := by rw [← q1, ← q2, h]
      subst q3
      exact ⟨rfl, by omega⟩
    rw [List.getElem?_set_ne hne, ← List.getD_eq_getElem?_getD, gridL_getD ha hb]
theorem rsC_set {f : Fl} {L : List RD} {p : Nat} {r : RD} (h : p < L.length) : (rsC f L).take (p * 3) ++ [Bo r.neg, sI f r.mag, sI f r.den] ++ (rsC f L).drop (p * 3 + 3) = rsC f (L.set p r) := by
  rw [rsC_take, show p * 3 + 3 = (p + 1) * 3 by omega, rsC_drop, List.set_eq_take_append_cons_drop, if_pos h, rsC_append, List.append_assoc]
  rfl
theorem gcs_set {n c i j : Nat} {N : Nat → Nat → FQ} {x : FQ} (hi : i < n) (hj : j < c) :
    (rsC .s ((gridL n c N).map qd)).take ((i * c + j) * 3) ++ [Bo (qd x).neg, sI .s (qd x).mag, sI .s (qd x).den] ++ (rsC .s ((gridL n c N).map qd)).drop ((i * c + j) * 3 + 3) = rsC .s ((gridL n c (upd2 N i j x)).map qd) := by
  rw [rsC_set (by rw [List.length_map, gridL_length]; exact ix_lt hi hj), ← List.map_set, gridL_set hi hj]
end Go.Proofs.YtikmepdhpffdoaaGreat
