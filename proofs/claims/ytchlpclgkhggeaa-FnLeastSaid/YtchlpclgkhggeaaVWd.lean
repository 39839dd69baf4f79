/- part of the proof -/
import Derived.Test.YtchlpclgkhggeaaVWb
namespace Go.Proofs.Ytchlpclgkhggeaa
open Go Go.RowKit
set_option maxRecDepth 100000
set_option maxHeartbeats 4000000
set_option linter.unusedVariables false
set_option linter.unusedSimpArgs false
theorem X1S {H : List Ob} {f : Fl} (hf : f ≠ .u) {p : Prg} : LeL H .b (pC f p) (pC f p):=by
 have k : ∀ l : List Int,Le H .b (sI f l) (sI f l):=fun l=>by
  cases f with
  | u=>exact absurd rfl hf
  | s=>exact .sl _ _ _ _ _ _ (.inl rfl) LeL.lits
  | b=>exact .sl _ _ _ _ _ _ ⟨rfl,rfl⟩ LeL.lits
 exact .cons _ _ _ _ (.lit _) (.cons _ _ _ _ (.lit _) (.cons _ _ _ _ (k _) (.cons _ _ _ _ (k _) (.cons _ _ _ _ (k _) .nil))))
end Go.Proofs.Ytchlpclgkhggeaa