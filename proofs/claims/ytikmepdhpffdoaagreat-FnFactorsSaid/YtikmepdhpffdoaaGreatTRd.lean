/- part of the proof -/
import Derived.Test.YtikmepdhpffdoaaGreatTRc
import Derived.Test.YtikmepdhpffdoaaGreatTXw
import Derived.Test.YtikmepdhpffdoaaGreatTXd
import Derived.Test.YtikmepdhpffdoaaGreatTKa
import Derived.Test.YtikmepdhpffdoaaGreatTXc
namespace Go.Proofs.YtikmepdhpffdoaaGreat
open Go Go.RowKit
set_option maxRecDepth 100000
set_option maxHeartbeats 4000000
set_option linter.unusedVariables false
set_option linter.unusedSimpArgs false
theorem idM_val (i j : Nat) : FV (idM i j) (if i = j then 1 else 0) 0 := by
  unfold idM
  split
  · exact FV.ofInt (z := 1) (by decide) (by decide)
  · exact FV.ofInt (z := 0) (by decide) (by decide)
theorem list_qd {n : Nat} {x : List FQ} {g : Nat → FQ} (hx : x.length = n) (h : ∀ i, i < n → x.getD i FQ.bad = g i) : x = rowQ n g := by
  refine List.ext_getElem (by rw [rowQ_length, hx]) fun i h1 h2 => ?_
  have := h i (by omega)
  rw [List.getD_eq_getElem?_getD, List.getElem?_eq_getElem h1, Option.getD_some] at this
  simp [rowQ, this]
theorem rowQ_congr {n : Nat} {g h : Nat → FQ} (e : ∀ i, i < n → g i = h i) : rowQ n g = rowQ n h := List.map_congr_left fun i hi => e i (List.mem_range.1 hi)
theorem rdq_map {x : List FQ} : (x.map qd).map rdq = x := by
  rw [List.map_map]
  conv => rhs; rw [← List.map_id x]
  exact List.map_congr_left fun y _ => rdq_qd y
theorem vok_qd {x : List FQ} (hl : x.length ≤ 24) (h : allG x = true) : vokR (x.map qd) = true := by
  unfold vokR
  rw [List.length_map, decide_eq_true hl, Bool.true_and, List.all_eq_true]
  intro r hr
  obtain ⟨y, hy, rfl⟩ := List.mem_map.1 hr
  rw [qd_ok]
  rw [allG_mem] at h
  exact h y hy
theorem allG_row {n : Nat} {g : Nat → FQ} (h : ∀ i, i < n → (g i).good = true) : allG (rowQ n g) = true := by
  rw [allG_mem]
  intro x hx
  obtain ⟨k, hk, rfl⟩ := List.mem_map.1 hx
  exact h k (List.mem_range.1 hk)
theorem mul_val {a b : MD} {r c d k l : Nat} {A B : Nat → Nat → Rat} (ga : a.Good r c) (gb : b.Good c d) (hA : ∀ i j, i < r → j < c → FV (a.at c i j) (A i j) k) (hB : ∀ i j, i < c → j < d → FV (b.at d i j) (B i j) l) (hK : c * (k + l + 1) ≤ 696) :
    ∃ X : Nat → Nat → FQ, mulM a b = (⟨r, d, (gridL r d X).map qd⟩, true) ∧ ∀ i j, i < r → j < d → FV (X i j) (dotR c (A i) fun t => B t j) (c * (k + l + 1)) := by
  have hok : mulOk a b = true := by
    unfold mulOk
    rw [good_ok ga, good_ok gb, decide_eq_true (show a.cols = b.rows by rw [ga.ec, gb.er])]; rfl
  have hv : ∀ i j, i < r → j < d → FV (sumQ (fun t => (a.at c i t).mul (b.at d t j)) c) (dotR c (A i) fun t => B t j) (c * (k + l + 1)) := fun i j hi hj =>
    dot_val (fun t ht => hA i t hi ht) (fun t ht => hB t j ht hj) hK
  refine ⟨fun i j => sumQ (fun t => (a.at c i t).mul (b.at d t j)) c, ?_, hv⟩
  rw [mulM_ok hok ga gb, cloQ_done, doneM, if_pos (gridL_all fun i j hi hj => (hv i j hi hj).good)]
end Go.Proofs.YtikmepdhpffdoaaGreat
