/- part of the proof -/
import Derived.Test.YtgkimfncegbeaaaTXc
import Derived.Test.YtgkimfncegbeaaaTKb
namespace Go.Proofs.Ytgkimfncegbeaaa
open Go Go.RowKit
set_option maxRecDepth 100000
set_option maxHeartbeats 4000000
set_option linter.unusedVariables false
set_option linter.unusedSimpArgs false
def doneM (r c : Int) (l : List FQ) : MD × Bool := if allG l = true then (⟨r, c, l.map qd⟩, true) else (MD.zero, false)
theorem cloQ_done {n c : Nat} {M : Nat → Nat → FQ} : cloQ n c M = doneM n c (gridL n c M) := rfl
abbrev moS (p : MD × Bool) : V := .tup [mtV .s p.1, Bo p.2]
theorem gridL_getD {n c : Nat} {M : Nat → Nat → FQ} {i k : Nat} (hi : i < n) (hk : k < c) : (gridL n c M).getD (i * c + k) FQ.bad = M i k := by
  induction n with
  | zero => omega
  | succ n ih =>
    rw [gridL_succ, List.getD_eq_getElem?_getD]
    rcases Nat.lt_or_eq_of_le (Nat.le_of_lt_succ hi) with h | rfl
    · rw [List.getElem?_append_left (by rw [gridL_length]; exact ix_lt h hk), ← List.getD_eq_getElem?_getD]
      exact ih h
    · rw [List.getElem?_append_right (by rw [gridL_length]; omega), gridL_length, Nat.add_sub_cancel_left, ← List.getD_eq_getElem?_getD]
      exact rowQ_get hk
theorem gridL_ext {n c : Nat} {M : Nat → Nat → FQ} {l : List FQ} (hl : l.length = n * c) (h : ∀ i k, i < n → k < c → l.getD (i * c + k) FQ.bad = M i k) : l = gridL n c M := by
  refine List.ext_getElem (by rw [hl, gridL_length]) fun p h1 h2 => ?_
  have hc : 0 < c := by
    rcases Nat.eq_zero_or_pos c with rfl | h
    · rw [hl, Nat.mul_zero] at h1; omega
    · exact h
  have hp : p / c < n := Nat.div_lt_of_lt_mul (by rw [Nat.mul_comm, ← hl]; exact h1)
  have e : p = p / c * c + p % c := by rw [Nat.mul_comm]; exact (Nat.div_add_mod p c).symm
  have q1 := h (p / c) (p % c) hp (Nat.mod_lt _ hc)
  have q2 := gridL_getD (M := M) hp (Nat.mod_lt p hc)
  rw [← e] at q1 q2
  rw [List.getD_eq_getElem?_getD, List.getElem?_eq_getElem h1, Option.getD_some] at q1
  rw [List.getD_eq_getElem?_getD, List.getElem?_eq_getElem h2, Option.getD_some] at q2
  rw [q1, q2]
end Go.Proofs.Ytgkimfncegbeaaa
