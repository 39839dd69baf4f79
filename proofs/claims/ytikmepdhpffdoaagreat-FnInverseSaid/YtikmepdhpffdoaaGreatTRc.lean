/- part of the proof -/
import Derived.Test.YtikmepdhpffdoaaGreatTRb
import Derived.Test.YtikmepdhpffdoaaGreatTDc
namespace Go.Proofs.YtikmepdhpffdoaaGreat
open Go Go.RowKit
set_option maxRecDepth 100000
set_option maxHeartbeats 4000000
set_option linter.unusedVariables false
set_option linter.unusedSimpArgs false
theorem grid_good {n c : Nat} {X : Nat → Nat → FQ} (hn : n ≤ 24) (hc : c ≤ 24) (h : ∀ i j, i < n → j < c → (X i j).good = true) : (⟨n, c, (gridL n c X).map qd⟩ : MD).Good n c := by
  refine ⟨hn, hc, rfl, rfl, by rw [List.length_map, gridL_length], ?_⟩
  show ((gridL n c X).map qd).all RD.ok = true
  rw [List.all_eq_true]
  intro x hx
  obtain ⟨y, hy, rfl⟩ := List.mem_map.1 hx
  rw [qd_ok]
  have := gridL_all h
  rw [allG_mem] at this
  exact this y hy
theorem good_ok {m : MD} {r c : Nat} (h : m.Good r c) : m.ok = true := by
  unfold MD.ok
  have h1 := h.r24
  have h2 := h.c24
  rw [h.all, decide_eq_true (show 0 ≤ m.rows ∧ m.rows ≤ 24 by rw [h.er]; omega), decide_eq_true (show 0 ≤ m.cols ∧ m.cols ≤ 24 by rw [h.ec]; omega), decide_eq_true (show (m.cells.length : Int) = m.rows * m.cols by rw [h.len, h.er, h.ec, Int.natCast_mul])]
  rfl
theorem grid_at {n c : Nat} {X : Nat → Nat → FQ} {i j : Nat} (hi : i < n) (hj : j < c) : (⟨n, c, (gridL n c X).map qd⟩ : MD).at c i j = X i j := by
  unfold MD.at
  show rdq (((gridL n c X).map qd).getD (i * c + j) RD.zero) = _
  rw [gcs_get hi hj, rdq_qd]
theorem grid_small {n c : Nat} {X : Nat → Nat → FQ} (hn : n ≤ 24) (hc : c ≤ 24) : smallL ((gridL n c X).map qd) := (qdl_small (by rw [gridL_length]; have := rc_le hn hc; omega)).1
theorem dot_val {n k l : Nat} {x y : Nat → FQ} {u v : Nat → Rat} (hx : ∀ t, t < n → FV (x t) (u t) k) (hy : ∀ t, t < n → FV (y t) (v t) l) (hK : n * (k + l + 1) ≤ 696) : FV (sumQ (fun t => (x t).mul (y t)) n) (dotR n u v) (n * (k + l + 1)) := by
  have gen : ∀ m, m ≤ n → FV (sumQ (fun t => (x t).mul (y t)) m) (dotR m u v) (m * (k + l + 1)) := by
    intro m
    induction m with
    | zero => intro _; rw [Nat.zero_mul]; exact FV.ofInt (z := 0) (by decide) (by decide)
    | succ m ih =>
      intro hm
      have h1 := Nat.mul_le_mul_right (k + l + 1) hm
      rw [Nat.succ_mul] at h1
      have := ((ih (by omega)).add ((hx m (by omega)).mul (hy m (by omega)) (by omega)) (by omega))
      rw [Nat.succ_mul]
      exact this
  exact gen n (Nat.le_refl n)
def cof (A : Nat → Nat → Rat) (i j : Nat) : Rat := A ((i + 1) % 3) ((j + 1) % 3) * A ((i + 2) % 3) ((j + 2) % 3) - A ((i + 1) % 3) ((j + 2) % 3) * A ((i + 2) % 3) ((j + 1) % 3)
def det3 (A : Nat → Nat → Rat) : Rat := A 0 0 * cof A 0 0 + A 0 1 * cof A 0 1 + A 0 2 * cof A 0 2
theorem dot3 {u y : Nat → Rat} : dotR 3 u y = u 0 * y 0 + u 1 * y 1 + u 2 * y 2 := by
  show 0 + u 0 * y 0 + u 1 * y 1 + u 2 * y 2 = _
  rw [Rat.zero_add]
theorem cram {A : Nat → Nat → Rat} {y b : Nat → Rat} (h : ∀ i, i < 3 → dotR 3 (A i) y = b i) (j : Nat) (hj : j < 3) : det3 A * y j = cof A 0 j * b 0 + cof A 1 j * b 1 + cof A 2 j * b 2 := by
  have h0 := h 0 (by omega)
  have h1 := h 1 (by omega)
  have h2 := h 2 (by omega)
  rw [dot3] at h0 h1 h2
  rw [← h0, ← h1, ← h2]
  obtain rfl | rfl | rfl : j = 0 ∨ j = 1 ∨ j = 2 := by omega
  all_goals (simp only [det3, cof, Nat.reduceAdd, Nat.reduceMod]; grind)
theorem det_ne {A Y : Nat → Nat → Rat} (h : ∀ i k, i < 3 → k < 3 → dotR 3 (A i) (fun j => Y j k) = if i = k then 1 else 0) : det3 A ≠ 0 := by
  intro z
  have e : det3 A * det3 Y = 1 := by
    have h00 := h 0 0 (by omega) (by omega)
    have h01 := h 0 1 (by omega) (by omega)
    have h02 := h 0 2 (by omega) (by omega)
    have h10 := h 1 0 (by omega) (by omega)
    have h11 := h 1 1 (by omega) (by omega)
    have h12 := h 1 2 (by omega) (by omega)
    have h20 := h 2 0 (by omega) (by omega)
    have h21 := h 2 1 (by omega) (by omega)
    have h22 := h 2 2 (by omega) (by omega)
    rw [dot3] at h00 h01 h02 h10 h11 h12 h20 h21 h22
    simp only [Nat.reduceEqDiff, if_true, if_false] at h00 h01 h02 h10 h11 h12 h20 h21 h22
    have key : det3 A * det3 Y = (A 0 0 * Y 0 0 + A 0 1 * Y 1 0 + A 0 2 * Y 2 0) * ((A 1 0 * Y 0 1 + A 1 1 * Y 1 1 + A 1 2 * Y 2 1) * (A 2 0 * Y 0 2 + A 2 1 * Y 1 2 + A 2 2 * Y 2 2) - (A 1 0 * Y 0 2 + A 1 1 * Y 1 2 + A 1 2 * Y 2 2) * (A 2 0 * Y 0 1 + A 2 1 * Y 1 1 + A 2 2 * Y 2 1)) + (A 0 0 * Y 0 1 + A 0 1 * Y 1 1 + A 0 2 * Y 2 1) * ((A 1 0 * Y 0 2 + A 1 1 * Y 1 2 + A 1 2 * Y 2 2) * (A 2 0 * Y 0 0 + A 2 1 * Y 1 0 + A 2 2 * Y 2 0) - (A 1 0 * Y 0 0 + A 1 1 * Y 1 0 + A 1 2 * Y 2 0) * (A 2 0 * Y 0 2 + A 2 1 * Y 1 2 + A 2 2 * Y 2 2)) + (A 0 0 * Y 0 2 + A 0 1 * Y 1 2 + A 0 2 * Y 2 2) * ((A 1 0 * Y 0 0 + A 1 1 * Y 1 0 + A 1 2 * Y 2 0) * (A 2 0 * Y 0 1 + A 2 1 * Y 1 1 + A 2 2 * Y 2 1) - (A 1 0 * Y 0 1 + A 1 1 * Y 1 1 + A 1 2 * Y 2 1) * (A 2 0 * Y 0 0 + A 2 1 * Y 1 0 + A 2 2 * Y 2 0)) := by
      simp only [det3, cof, Nat.reduceAdd, Nat.reduceMod]; grind
    rw [key, h00, h01, h02, h10, h11, h12, h20, h21, h22]; grind
  rw [z, Rat.zero_mul] at e
  exact absurd e (by decide)
theorem cof_sz {A : Nat → Nat → Rat} {k : Nat} (h : ∀ i j, i < 3 → j < 3 → Sz (A i j) k) (i j : Nat) : Sz (cof A i j) (4 * k + 1) := by
  unfold cof
  exact (((h _ _ (Nat.mod_lt _ (by omega)) (Nat.mod_lt _ (by omega))).mul (h _ _ (Nat.mod_lt _ (by omega)) (Nat.mod_lt _ (by omega)))).sub ((h _ _ (Nat.mod_lt _ (by omega)) (Nat.mod_lt _ (by omega))).mul (h _ _ (Nat.mod_lt _ (by omega)) (Nat.mod_lt _ (by omega))))).mono (by omega)
theorem det3_sz {A : Nat → Nat → Rat} {k : Nat} (h : ∀ i j, i < 3 → j < 3 → Sz (A i j) k) : Sz (det3 A) (15 * k + 5) := by
  unfold det3
  exact ((((h 0 0 (by omega) (by omega)).mul (cof_sz h 0 0)).add ((h 0 1 (by omega) (by omega)).mul (cof_sz h 0 1))).add ((h 0 2 (by omega) (by omega)).mul (cof_sz h 0 2))).mono (by omega)
theorem cram_sz {A : Nat → Nat → Rat} {y b : Nat → Rat} {k l : Nat} (hA : ∀ i j, i < 3 → j < 3 → Sz (A i j) k) (hb : ∀ i, i < 3 → Sz (b i) l) (h : ∀ i, i < 3 → dotR 3 (A i) y = b i) (hd : det3 A ≠ 0) (j : Nat) (hj : j < 3) : Sz (y j) (27 * k + 3 * l + 10) := by
  have e : y j = (cof A 0 j * b 0 + cof A 1 j * b 1 + cof A 2 j * b 2) / det3 A := by
    rw [← cram h j hj, Rat.div_def, Rat.mul_comm (det3 A), Rat.mul_assoc, Rat.mul_inv_cancel _ hd, Rat.mul_one]
  rw [e]
  exact (((((cof_sz hA 0 j).mul (hb 0 (by omega))).add ((cof_sz hA 1 j).mul (hb 1 (by omega)))).add ((cof_sz hA 2 j).mul (hb 2 (by omega)))).div (det3_sz hA) hd).mono (by omega)
theorem cram_uniq {A : Nat → Nat → Rat} {y z b : Nat → Rat} (h : ∀ i, i < 3 → dotR 3 (A i) y = b i) (g : ∀ i, i < 3 → dotR 3 (A i) z = b i) (hd : det3 A ≠ 0) (j : Nat) (hj : j < 3) : y j = z j := by
  have e1 := cram h j hj
  have e2 := cram g j hj
  rw [← e2] at e1
  have : (det3 A)⁻¹ * (det3 A * y j) = (det3 A)⁻¹ * (det3 A * z j) := by rw [e1]
  rwa [← Rat.mul_assoc, ← Rat.mul_assoc, Rat.inv_mul_cancel _ hd, Rat.one_mul, Rat.one_mul] at this
theorem dot_comp {A Y : Nat → Nat → Rat} {v : Nat → Rat} (h : ∀ i k, i < 3 → k < 3 → dotR 3 (A i) (fun j => Y j k) = if i = k then 1 else 0) (i : Nat) (hi : i < 3) : dotR 3 (A i) (fun j => dotR 3 (Y j) v) = v i := by
  have h0 := h i 0 hi (by omega)
  have h1 := h i 1 hi (by omega)
  have h2 := h i 2 hi (by omega)
  rw [dot3] at h0 h1 h2
  rw [dot3, dot3, dot3, dot3]
  have e : A i 0 * (Y 0 0 * v 0 + Y 0 1 * v 1 + Y 0 2 * v 2) + A i 1 * (Y 1 0 * v 0 + Y 1 1 * v 1 + Y 1 2 * v 2) + A i 2 * (Y 2 0 * v 0 + Y 2 1 * v 1 + Y 2 2 * v 2) = (A i 0 * Y 0 0 + A i 1 * Y 1 0 + A i 2 * Y 2 0) * v 0 + (A i 0 * Y 0 1 + A i 1 * Y 1 1 + A i 2 * Y 2 1) * v 1 + (A i 0 * Y 0 2 + A i 1 * Y 1 2 + A i 2 * Y 2 2) * v 2 := by grind
  rw [e, h0, h1, h2]
  obtain rfl | rfl | rfl : i = 0 ∨ i = 1 ∨ i = 2 := by omega
  all_goals (simp only [Nat.reduceEqDiff, if_true, if_false]; grind)
end Go.Proofs.YtikmepdhpffdoaaGreat
