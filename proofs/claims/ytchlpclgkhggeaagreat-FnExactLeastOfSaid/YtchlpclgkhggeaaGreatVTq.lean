/- part of the proof -/
import Derived.Test.YtchlpclgkhggeaaGreatVTp
import Derived.Test.YtchlpclgkhggeaaGreatVWb
namespace Go.Proofs.YtchlpclgkhggeaaGreat
open Go Go.RowKit
set_option maxRecDepth 100000
set_option maxHeartbeats 4000000
set_option linter.unusedVariables false
set_option linter.unusedSimpArgs false
theorem Y4x (P : LP) : (∃ x,P.Best x ∧ lpOf P = (0,(List.range P.n).map (fun j=>FQ.fit (x j)),FQ.fit (P.v x))) ∨ ((∃ x,P.Fx x) ∧ (¬ ∃ x,P.Best x) ∧ lpOf P = (3,[],FQ.bad)) ∨ ((¬ ∃ x,P.Fx x) ∧ lpOf P = (2,[],FQ.bad)):=by
 by_cases h : ∃ x,P.Best x
 ·obtain ⟨x,hx⟩:=h
  exact .inl ⟨x,hx,X6E hx⟩
 ·by_cases g : ∃ x,P.Fx x
  ·refine .inr (.inl ⟨g,h, ?_⟩)
   unfold lpOf
   rw [dif_neg h,if_pos g]
  ·exact .inr (.inr ⟨g,X6D g⟩)
end Go.Proofs.YtchlpclgkhggeaaGreat