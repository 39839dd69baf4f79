/- part of the proof -/
import Derived.Test.YtgkimfncegbeaaaTRb
import Derived.Test.YtgkimfncegbeaaaTDc
namespace Go.Proofs.Ytgkimfncegbeaaa
open Go Go.RowKit
set_option maxRecDepth 100000
set_option maxHeartbeats 4000000
set_option linter.unusedVariables false
set_option linter.unusedSimpArgs false
theorem grid_good {n c : Nat} {X : Nat → Nat → FQ} (hn : n ≤ 24) (hc : c ≤ 24) (h : ∀ i j, i < n → j < c → (X i j).good = true) : (⟨n, c, (gridL n c X).map qd⟩ : MD).Good n c := by
  refine ⟨hn, hc, rfl, rfl, by rw [List.length_map, gridL_length], ?_⟩
  show ((gridL n c X).map qd).all RD.ok = true
  rw [List.all_eq_true]
  intro x hx
  obtain ⟨y, hy, rfl⟩ := List.mem_map.1 hx
  rw [qd_ok]
  have := gridL_all h
  rw [allG_mem] at this
  exact this y hy
theorem good_ok {m : MD} {r c : Nat} (h : m.Good r c) : m.ok = true := by
  unfold MD.ok
  have h1 := h.r24
  have h2 := h.c24
  rw [h.all, decide_eq_true (show 0 ≤ m.rows ∧ m.rows ≤ 24 by rw [h.er]; omega), decide_eq_true (show 0 ≤ m.cols ∧ m.cols ≤ 24 by rw [h.ec]; omega), decide_eq_true (show (m.cells.length : Int) = m.rows * m.cols by rw [h.len, h.er, h.ec, Int.natCast_mul])]
  rfl
theorem grid_at {n c : Nat} {X : Nat → Nat → FQ} {i j : Nat} (hi : i < n) (hj : j < c) : (⟨n, c, (gridL n c X).map qd⟩ : MD).at c i j = X i j := by
  unfold MD.at
  show rdq (((gridL n c X).map qd).getD (i * c + j) RD.zero) = _
  rw [gcs_get hi hj, rdq_qd]
theorem grid_small {n c : Nat} {X : Nat → Nat → FQ} (hn : n ≤ 24) (hc : c ≤ 24) : smallL ((gridL n c X).map qd) := (qdl_small (by rw [gridL_length]; have := rc_le hn hc; omega)).1
theorem dot_val {n k l : Nat} {x y : Nat → FQ} {u v : Nat → Rat} (hx : ∀ t, t < n → FV (x t) (u t) k) (hy : ∀ t, t < n → FV (y t) (v t) l) (hK : n * (k + l + 1) ≤ 696) : FV (sumQ (fun t => (x t).mul (y t)) n) (dotR n u v) (n * (k + l + 1)) := by
  have gen : ∀ m, m ≤ n → FV (sumQ (fun t => (x t).mul (y t)) m) (dotR m u v) (m * (k + l + 1)) := by
    intro m
    induction m with
    | zero => intro _; rw [Nat.zero_mul]; exact FV.ofInt (z := 0) (by decide) (by decide)
    | succ m ih =>
      intro hm
      have h1 := Nat.mul_le_mul_right (k + l + 1) hm
      rw [Nat.succ_mul] at h1
      have := ((ih (by omega)).add ((hx m (by omega)).mul (hy m (by omega)) (by omega)) (by omega))
      rw [Nat.succ_mul]
      exact this
  exact gen n (Nat.le_refl n)
end Go.Proofs.Ytgkimfncegbeaaa
