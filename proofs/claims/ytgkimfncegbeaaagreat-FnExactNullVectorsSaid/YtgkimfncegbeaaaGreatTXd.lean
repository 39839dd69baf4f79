/- part of the proof -/
import Derived.Test.YtgkimfncegbeaaaGreatTXb
import Derived.Test.YtgkimfncegbeaaaGreatTLa4
import Derived.Test.YtgkimfncegbeaaaGreatTKb
namespace Go.Proofs.YtgkimfncegbeaaaGreat
open Go Go.RowKit
set_option maxRecDepth 100000
set_option maxHeartbeats 4000000
set_option linter.unusedVariables false
set_option linter.unusedSimpArgs false
theorem gridL_getD {n c : Nat} {M : Nat → Nat → FQ} {i k : Nat} (hi : i < n) (hk : k < c) : (gridL n c M).getD (i * c + k) FQ.bad = M i k := by
  induction n with
  | zero => omega
  | succ n ih =>
    rw [gridL_succ, List.getD_eq_getElem?_getD]
    rcases Nat.lt_or_eq_of_le (Nat.le_of_lt_succ hi) with h | rfl
    · rw [List.getElem?_append_left (by rw [gridL_length]; exact ix_lt h hk), ← List.getD_eq_getElem?_getD]
      exact ih h
    · rw [List.getElem?_append_right (by rw [gridL_length]; omega), gridL_length, Nat.add_sub_cancel_left, ← List.getD_eq_getElem?_getD]
      exact rowQ_get hk
theorem gridL_ext {n c : Nat} {M : Nat → Nat → FQ} {l : List FQ} (hl : l.length = n * c) (h : ∀ i k, i < n → k < c → l.getD (i * c + k) FQ.bad = M i k) : l = gridL n c M := by
  refine List.ext_getElem (by rw [hl, gridL_length]) fun p h1 h2 => ?_
  have hc : 0 < c := by
    rcases Nat.eq_zero_or_pos c with rfl | h
    · rw [hl, Nat.mul_zero] at h1; omega
    · exact h
  have hp : p / c < n := Nat.div_lt_of_lt_mul (by rw [Nat.mul_comm, ← hl]; exact h1)
  have e : p = p / c * c + p % c := by rw [Nat.mul_comm]; exact (Nat.div_add_mod p c).symm
  have q1 := h (p / c) (p % c) hp (Nat.mod_lt _ hc)
  have q2 := gridL_getD (M := M) hp (Nat.mod_lt p hc)
  rw [← e] at q1 q2
  rw [List.getD_eq_getElem?_getD, List.getElem?_eq_getElem h1, Option.getD_some] at q1
  rw [List.getD_eq_getElem?_getD, List.getElem?_eq_getElem h2, Option.getD_some] at q2
  rw [q1, q2]
theorem all_list {l : List RD} (h : l.all RD.ok = true) : ∃ m : List FQ, l = m.map qd ∧ l.map rdq = m ∧ allG m = true := by
  rw [List.all_eq_true] at h
  refine ⟨l.map rdq, ?_, rfl, ?_⟩
  · rw [List.map_map]
    conv => lhs; rw [← List.map_id l]
    exact List.map_congr_left fun r hr => (qd_rdq (h r hr)).symm
  · unfold allG
    rw [List.all_eq_true]
    intro x hx
    obtain ⟨r, hr, rfl⟩ := List.mem_map.1 hx
    rw [rdq_good]; exact h r hr
end Go.Proofs.YtgkimfncegbeaaaGreat
