/- part of the proof -/
import Derived.Test.YtchlpclgkhggeaaVTp
import Derived.Test.YtchlpclgkhggeaaVWb
namespace Go.Proofs.Ytchlpclgkhggeaa
open Go Go.RowKit
set_option maxRecDepth 100000
set_option maxHeartbeats 4000000
set_option linter.unusedVariables false
set_option linter.unusedSimpArgs false
theorem Y3A {p : Prg} (h1 : 0 ≤ p.rows ∧ p.rows ≤ 20) (h2 : 0 ≤ p.cols ∧ p.cols ≤ 40) (h3 : (p.a.length : Int) = p.rows * p.cols) (h4 : (p.b.length : Int) = p.rows) (h5 : (p.c.length : Int) = p.cols)
  (h6 : inB (-100) 100 p.a = true) (h7 : inB (-100) 100 p.b = true) (h8 : inB (-100) 100 p.c = true) : okP' p = true:=by
 unfold okP'
 rw [decide_eq_true h1,decide_eq_true h2,decide_eq_true h3,decide_eq_true h4,decide_eq_true h5,h6,h7,h8]; rfl
theorem X1l (P : LP) : (∃ x,P.Best x ∧ lpOf P = (0,(List.range P.n).map (fun j=>FQ.fit (x j)),FQ.fit (P.v x))) ∨ ((∃ x,P.Fx x) ∧ (¬ ∃ x,P.Best x) ∧ lpOf P = (3,[],FQ.bad)) ∨ ((¬ ∃ x,P.Fx x) ∧ lpOf P = (2,[],FQ.bad)):=by
 by_cases h : ∃ x,P.Best x
 ·obtain ⟨x,hx⟩:=h
  exact .inl ⟨x,hx,X2Q hx⟩
 ·by_cases g : ∃ x,P.Fx x
  ·refine .inr (.inl ⟨g,h, ?_⟩)
   unfold lpOf
   rw [dif_neg h,if_pos g]
  ·exact .inr (.inr ⟨g,X2P g⟩)
end Go.Proofs.Ytchlpclgkhggeaa