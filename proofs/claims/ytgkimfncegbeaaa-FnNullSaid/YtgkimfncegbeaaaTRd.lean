/- part of the proof -/
import Derived.Test.YtgkimfncegbeaaaTRc
import Derived.Test.YtgkimfncegbeaaaTXs
import Derived.Test.YtgkimfncegbeaaaTKb
import Derived.Test.YtgkimfncegbeaaaTXc
namespace Go.Proofs.Ytgkimfncegbeaaa
open Go Go.RowKit
set_option maxRecDepth 100000
set_option maxHeartbeats 4000000
set_option linter.unusedVariables false
set_option linter.unusedSimpArgs false
theorem list_qd {n : Nat} {x : List FQ} {g : Nat → FQ} (hx : x.length = n) (h : ∀ i, i < n → x.getD i FQ.bad = g i) : x = rowQ n g := by
  refine List.ext_getElem (by rw [rowQ_length, hx]) fun i h1 h2 => ?_
  have := h i (by omega)
  rw [List.getD_eq_getElem?_getD, List.getElem?_eq_getElem h1, Option.getD_some] at this
  simp [rowQ, this]
theorem rowQ_congr {n : Nat} {g h : Nat → FQ} (e : ∀ i, i < n → g i = h i) : rowQ n g = rowQ n h := List.map_congr_left fun i hi => e i (List.mem_range.1 hi)
theorem rdq_map {x : List FQ} : (x.map qd).map rdq = x := by
  rw [List.map_map]
  conv => rhs; rw [← List.map_id x]
  exact List.map_congr_left fun y _ => rdq_qd y
theorem vok_qd {x : List FQ} (hl : x.length ≤ 24) (h : allG x = true) : vokR (x.map qd) = true := by
  unfold vokR
  rw [List.length_map, decide_eq_true hl, Bool.true_and, List.all_eq_true]
  intro r hr
  obtain ⟨y, hy, rfl⟩ := List.mem_map.1 hr
  rw [qd_ok]
  rw [allG_mem] at h
  exact h y hy
theorem allG_row {n : Nat} {g : Nat → FQ} (h : ∀ i, i < n → (g i).good = true) : allG (rowQ n g) = true := by
  rw [allG_mem]
  intro x hx
  obtain ⟨k, hk, rfl⟩ := List.mem_map.1 hx
  exact h k (List.mem_range.1 hk)
theorem apply_val {m : MD} {r c k l : Nat} {A : Nat → Nat → Rat} {v : Nat → Rat} {x : List FQ} (hg : m.Good r c) (hA : ∀ i j, i < r → j < c → FV (m.at c i j) (A i j) k) (hx : x.length = c) (hv : ∀ j, j < c → FV (x.getD j FQ.bad) (v j) l) (hK : c * (k + l + 1) ≤ 696) :
    ∃ g : Nat → FQ, applyQ m (x.map qd) = (rowQ r g, true) ∧ ∀ i, i < r → FV (g i) (dotR c (A i) v) (c * (k + l + 1)) := by
  have hall : allG x = true := by
    rw [list_qd hx (fun i _ => rfl)]
    exact allG_row fun i hi => (hv i hi).good
  have hok : appOk m (x.map qd) = true := by
    unfold appOk
    rw [good_ok hg, vok_qd (by have := hg.c24; omega) hall, decide_eq_true (show ((x.map qd).length : Int) = m.cols by rw [List.length_map, hx, hg.ec])]; rfl
  refine ⟨fun i => sumQ (fun t => (m.at c i t).mul (x.getD t FQ.bad)) c, ?_, fun i hi => dot_val (fun t ht => hA i t hi ht) hv hK⟩
  unfold applyQ
  rw [if_pos hok, appL_eq hg, rdq_map]
  exact doneQ_ok (allG_row fun i hi => (dot_val (fun t ht => hA i t hi ht) hv hK).good)
end Go.Proofs.Ytgkimfncegbeaaa
