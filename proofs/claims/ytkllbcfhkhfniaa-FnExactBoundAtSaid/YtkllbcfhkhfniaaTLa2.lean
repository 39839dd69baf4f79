/- part of the proof -/
import Derived.Test.YtkllbcfhkhfniaaTGa
namespace Go.Proofs.Ytkllbcfhkhfniaa
open Go Go.RowKit
set_option maxRecDepth 100000
set_option linter.unusedVariables false
set_option linter.unusedSimpArgs false
theorem okP_spec {p : Prg} (h : okP' p = true) : (0 ≤ p.rows ∧ p.rows ≤ 20) ∧ (0 ≤ p.cols ∧ p.cols ≤ 40) ∧ (p.a.length : Int) = p.rows * p.cols ∧ (p.b.length : Int) = p.rows ∧ (p.c.length : Int) = p.cols ∧ inB (-100) 100 p.a = true ∧ inB (-100) 100 p.b = true ∧ inB (-100) 100 p.c = true := by
  simpa [okP', and_assoc] using h
end Go.Proofs.Ytkllbcfhkhfniaa
