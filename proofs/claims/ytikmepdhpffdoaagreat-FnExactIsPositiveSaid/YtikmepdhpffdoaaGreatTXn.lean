/- part of the proof -/
import Derived.Test.YtikmepdhpffdoaaGreatTXm
namespace Go.Proofs.YtikmepdhpffdoaaGreat
open Go Go.RowKit
set_option maxRecDepth 100000
set_option maxHeartbeats 4000000
set_option linter.unusedVariables false
set_option linter.unusedSimpArgs false
structure RS.Inv (n c k : Nat) (st : RS) : Prop where
  pl : st.piv.length ≤ n
  good : ∀ i j, i < n → j < c → (st.M i j).good = true
theorem leL_gCs {H : List Ob} {f : Fl} {n c : Nat} {M : Nat → Nat → FQ} : LeL H f (gC .s .s n c M) (gC .s .s n c M) := by
  induction n with
  | zero => exact .nil
  | succ n ih => rw [gC_succ]; exact leL_app ih (.cons _ _ _ _ (.sl _ _ _ _ _ _ (.inl rfl) leL_qss) .nil)
end Go.Proofs.YtikmepdhpffdoaaGreat
