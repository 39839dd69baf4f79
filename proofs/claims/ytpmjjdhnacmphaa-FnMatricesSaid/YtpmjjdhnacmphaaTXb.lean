/- part of the proof -/
import Derived.Test.YtpmjjdhnacmphaaTXa
import Derived.Test.YtpmjjdhnacmphaaTJa
namespace Go.Proofs.Ytpmjjdhnacmphaa
open Go Go.RowKit
set_option maxRecDepth 100000
set_option maxHeartbeats 4000000
set_option linter.unusedVariables false
set_option linter.unusedSimpArgs false
def sumQ (g : Nat → FQ) : Nat → FQ
  | 0 => FQ.ofInt 0
  | n + 1 => (sumQ g n).add (g n)
theorem sumQ_congr {g h : Nat → FQ} {n : Nat} (e : ∀ i, i < n → g i = h i) : sumQ g n = sumQ h n := by
  induction n with
  | zero => rfl
  | succ n ih => show (sumQ g n).add (g n) = (sumQ h n).add (h n); rw [ih (fun i hi => e i (by omega)), e n (by omega)]
end Go.Proofs.Ytpmjjdhnacmphaa
