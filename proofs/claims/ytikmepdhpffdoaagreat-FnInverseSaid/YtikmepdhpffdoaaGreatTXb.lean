/- part of the proof -/
import Derived.Test.YtikmepdhpffdoaaGreatTXa
import Derived.Test.YtikmepdhpffdoaaGreatTJa
namespace Go.Proofs.YtikmepdhpffdoaaGreat
open Go Go.RowKit
set_option maxRecDepth 100000
set_option maxHeartbeats 4000000
set_option linter.unusedVariables false
set_option linter.unusedSimpArgs false
def sumQ (g : Nat → FQ) : Nat → FQ
  | 0 => FQ.ofInt 0
  | n + 1 => (sumQ g n).add (g n)
theorem sumQ_congr {g h : Nat → FQ} {n : Nat} (e : ∀ i, i < n → g i = h i) : sumQ g n = sumQ h n := by
  induction n with
  | zero => rfl
  | succ n ih => show (sumQ g n).add (g n) = (sumQ h n).add (h n); rw [ih (fun i hi => e i (by omega)), e n (by omega)]
theorem good_some {x : FQ} (h : x.good = true) : ∃ r, x.1 = some r := by
  unfold FQ.good at h
  cases e : x.1 with
  | none => rw [e] at h; cases h
  | some r => exact ⟨r, rfl⟩
theorem fit_zero : (FQ.fit 0).1 = some 0 := ofInt_some (n := 0) (by decide)
theorem num_of {x : FQ} {r : Rat} (h : x.1 = some r) : x.num = r.num := by unfold FQ.num; rw [h]
theorem fq_mul0 {x y : FQ} (hx : x.good = true) (hy : y.good = true) (h : x.num = 0 ∨ y.num = 0) : (x.mul y).1 = some 0 := by
  obtain ⟨r, hr⟩ := good_some hx
  obtain ⟨q, hq⟩ := good_some hy
  rw [num_of hr, num_of hq] at h
  unfold FQ.mul lift2
  rw [hr, hq]
  have : r * q = 0 := by
    rcases h with h | h
    · rw [Rat.num_eq_zero.1 h, Rat.zero_mul]
    · rw [Rat.num_eq_zero.1 h, Rat.mul_zero]
  show (FQ.fit (r * q)).1 = some 0
  rw [this]; exact fit_zero
abbrev toS (x : FQ) : V := .tup [rV .s (qd x), Bo x.good]
abbrev toO (x : FQ) : V := .tup [rO (qd x), Bo x.good]
theorem toO_bad : toO FQ.bad = .tup [rO RD.zero, Bo false] := by unfold toO; rw [qd_bad]; rfl
end Go.Proofs.YtikmepdhpffdoaaGreat
