/- part of the proof -/
import Derived.Test.YtpmjjdhnacmphaaTXo
namespace Go.Proofs.Ytpmjjdhnacmphaa
open Go Go.RowKit
set_option maxRecDepth 100000
set_option maxHeartbeats 4000000
set_option linter.unusedVariables false
set_option linter.unusedSimpArgs false
theorem gcs_get {n c i j : Nat} {N : Nat → Nat → FQ} (hi : i < n) (hj : j < c) : ((gridL n c N).map qd).getD (i * c + j) RD.zero = qd (N i j) := by
  rw [getD_map_qd (OM.mk (by rw [gridL_length]; exact ix_lt hi hj)), gridL_getD hi hj]
def upd2 (N : Nat → Nat → FQ) (i j : Nat) (x : FQ) : Nat → Nat → FQ := fun a b => if a = i ∧ b = j then x else N a b
theorem gridL_set {n c i j : Nat} {N : Nat → Nat → FQ} {x : FQ} (hi : i < n) (hj : j < c) : (gridL n c N).set (i * c + j) x = gridL n c (upd2 N i j x) := by
  refine gridL_ext (by rw [List.length_set, gridL_length]) fun a b ha hb => ?_
  unfold upd2
  rw [List.getD_eq_getElem?_getD]
  by_cases e : a = i ∧ b = j
  · obtain ⟨rfl, rfl⟩ := e
    rw [if_pos ⟨rfl, rfl⟩, List.getElem?_set_self (by rw [gridL_length]; exact ix_lt hi hj)]; rfl
  · rw [if_neg e]
    have hne : i * c + j ≠ a * c + b := by
      intro h
      apply e
      have hc : 0 < c := by omega
      have q1 : (i * c + j) / c = i := by rw [Nat.mul_comm, Nat.mul_add_div hc, Nat.div_eq_of_lt hj, Nat.add_zero]
      have q2 : (a * c + b) / c = a := by rw [Nat.mul_comm, Nat.mul_add_div hc, Nat.div_eq_of_lt hb, Nat.add_zero]
      have q3 : a = i := by rw [← q1, ← q2, h]
      subst q3
      exact ⟨rfl, by omega⟩
    rw [List.getElem?_set_ne hne, ← List.getD_eq_getElem?_getD, gridL_getD ha hb]
theorem rsC_set {f : Fl} {L : List RD} {p : Nat} {r : RD} (h : p < L.length) : (rsC f L).take (p * 3) ++ [Bo r.neg, sI f r.mag, sI f r.den] ++ (rsC f L).drop (p * 3 + 3) = rsC f (L.set p r) := by
  rw [rsC_take, show p * 3 + 3 = (p + 1) * 3 by omega, rsC_drop, List.set_eq_take_append_cons_drop, if_pos h, rsC_append, List.append_assoc]
  rfl
theorem gcs_set {n c i j : Nat} {N : Nat → Nat → FQ} {x : FQ} (hi : i < n) (hj : j < c) :
    (rsC .s ((gridL n c N).map qd)).take ((i * c + j) * 3) ++ [Bo (qd x).neg, sI .s (qd x).mag, sI .s (qd x).den] ++ (rsC .s ((gridL n c N).map qd)).drop ((i * c + j) * 3 + 3) = rsC .s ((gridL n c (upd2 N i j x)).map qd) := by
  rw [rsC_set (by rw [List.length_map, gridL_length]; exact ix_lt hi hj), ← List.map_set, gridL_set hi hj]
end Go.Proofs.Ytpmjjdhnacmphaa
