/- part of the proof -/
import Derived.Test.YtkllbcfhkhfniaaTXa
import Derived.Test.YtkllbcfhkhfniaaTJa
namespace Go.Proofs.Ytkllbcfhkhfniaa
open Go Go.RowKit
set_option maxRecDepth 100000
set_option maxHeartbeats 4000000
set_option linter.unusedVariables false
set_option linter.unusedSimpArgs false
def sumQ (g : Nat → FQ) : Nat → FQ
  | 0 => FQ.ofInt 0
  | n + 1 => (sumQ g n).add (g n)
theorem sumQ_congr {g h : Nat → FQ} {n : Nat} (e : ∀ i, i < n → g i = h i) : sumQ g n = sumQ h n := by
  induction n with
  | zero => rfl
  | succ n ih => show (sumQ g n).add (g n) = (sumQ h n).add (h n); rw [ih (fun i hi => e i (by omega)), e n (by omega)]
theorem zip_get {op : FQ → FQ → FQ} {x y : List FQ} {i : Nat} (h : i < x.length) (e : x.length = y.length) : (List.zipWith op x y).getD i FQ.bad = op (x.getD i FQ.bad) (y.getD i FQ.bad) := by
  have h2 : i < y.length := by omega
  rw [List.getD_eq_getElem?_getD, List.getElem?_eq_getElem (by simp; omega), List.getElem_zipWith]
  simp [h, h2]
theorem zip_len {op : FQ → FQ → FQ} {x y : List FQ} (e : x.length = y.length) : (List.zipWith op x y).length = x.length := by simp [e]
abbrev toS (x : FQ) : V := .tup [rV .s (qd x), Bo x.good]
abbrev toO (x : FQ) : V := .tup [rO (qd x), Bo x.good]
theorem toS_bad : toS FQ.bad = .tup [rV .s RD.zero, Bo false] := by unfold toS; rw [qd_bad]; rfl
theorem toO_bad : toO FQ.bad = .tup [rO RD.zero, Bo false] := by unfold toO; rw [qd_bad]; rfl
end Go.Proofs.Ytkllbcfhkhfniaa
