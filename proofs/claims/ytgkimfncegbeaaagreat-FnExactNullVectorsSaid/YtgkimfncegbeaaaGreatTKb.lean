/- part of the proof -/
import Derived.Test.YtgkimfncegbeaaaGreatTKa
namespace Go.Proofs.YtgkimfncegbeaaaGreat
open Go Go.RowKit
set_option maxRecDepth 100000
set_option maxHeartbeats 4000000
set_option linter.unusedVariables false
set_option linter.unusedSimpArgs false
def gridL (n c : Nat) (M : Nat → Nat → FQ) : List FQ := (List.range n).flatMap fun i => rowQ c (M i)
theorem gridL_succ {n c : Nat} {M : Nat → Nat → FQ} : gridL (n + 1) c M = gridL n c M ++ rowQ c (M n) := by simp [gridL, List.range_succ]
@[go_sem] theorem gridL_length {n c : Nat} {M : Nat → Nat → FQ} : (gridL n c M).length = n * c := by
  induction n with
  | zero => simp [gridL]
  | succ n ih => rw [gridL_succ, List.length_append, ih, rowQ_length, Nat.succ_mul]
@[go_sem] theorem mdz_rows : MD.zero.rows = 0 := (rfl)
@[go_sem] theorem mdz_cols : MD.zero.cols = 0 := (rfl)
@[go_sem] theorem mdz_cells : MD.zero.cells = [] := (rfl)
@[go_sem] theorem le_gC {H : List Ob} {n c : Nat} {M : Nat → Nat → FQ} : Le H .b (.sl .b 1 n (gC .b .b n c M)) (.sl .b 1 n (gC .b .b n c M)) = True := eq_true (.sl _ _ _ _ _ _ ⟨rfl, rfl⟩ leL_gC)
theorem allG_mem {l : List FQ} : allG l = true ↔ ∀ x ∈ l, x.good = true := by unfold allG; rw [List.all_eq_true]
theorem gridL_all {n c : Nat} {M : Nat → Nat → FQ} (h : ∀ i k, i < n → k < c → (M i k).good = true) : allG (gridL n c M) = true := by
  rw [allG_mem]
  intro x hx
  obtain ⟨i, hi, hx⟩ := List.mem_flatMap.1 hx
  obtain ⟨k, hk, rfl⟩ := List.mem_map.1 hx
  exact h i k (List.mem_range.1 hi) (List.mem_range.1 hk)
theorem MD.at_ok {m : MD} {r c i k : Nat} (hg : m.Good r c) (hi : i < r) (hk : k < c) : (m.at c i k).good = true ∧ qd (m.at c i k) = m.cells.getD (i * c + k) RD.zero := by
  have := getD_all hg.all (d := RD.zero) (i := i * c + k) (by rw [hg.len]; exact ix_lt hi hk)
  unfold MD.at
  exact ⟨by rw [rdq_good]; exact this, qd_rdq this⟩
end Go.Proofs.YtgkimfncegbeaaaGreat
namespace Go.Proofs.YtgkimfncegbeaaaGreat
open Go Go.RowKit
set_option maxRecDepth 100000
set_option maxHeartbeats 4000000
set_option linter.unusedVariables false
set_option linter.unusedSimpArgs false
end Go.Proofs.YtgkimfncegbeaaaGreat
