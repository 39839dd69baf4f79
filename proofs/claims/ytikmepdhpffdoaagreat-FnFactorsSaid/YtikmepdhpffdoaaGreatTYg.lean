/- part of the proof -/
import Derived.Test.YtikmepdhpffdoaaGreatTYf
namespace Go.Proofs.YtikmepdhpffdoaaGreat
open Go Go.RowKit
set_option maxRecDepth 100000
set_option maxHeartbeats 4000000
set_option linter.unusedVariables false
set_option linter.unusedSimpArgs false
abbrev faS (p : MD × List FQ × Bool) : V := .tup [mtV .s p.1, sR .s (p.2.1.map qd), Bo p.2.2]
theorem impl_IsPositive_c (m : MD) (f : Fl) (hf : f ≠ .u) (hs : smallL m.cells) : PC PP F_impl_IsPositive [mtV f m] (Bo (facR m).2.2) [] := by
  refine tx W_impl_IsPositive ke_impl_IsPositive [] (by kernel_rfl) ?_
  simp -dsimp(disch:=first|exact om|fail)only[go_sem,↓reduceIte,Nat.reduceEqDiff,Nat.reduceAdd,Nat.reduceSub,Nat.reduceMul,Nat.reduceLT,Nat.reduceLeDiff,reduceCtorEq,a_eq,a_neq,a_cast0,a_pred,a_app1,a_zero,Int.reduceToNat]
  have q := impl_Factor_g m f hf hs
  generalize facR m = p at *
  obtain ⟨A, l, b⟩ := p
  refine callO' q lL lF ?_
  simp -dsimp(disch:=first|exact om|fail)only[go_sem,↓reduceIte,Nat.reduceEqDiff,Nat.reduceAdd,Nat.reduceSub,Nat.reduceMul,Nat.reduceLT,Nat.reduceLeDiff,reduceCtorEq,a_eq,a_neq,a_cast0,a_pred,a_app1,a_zero,Int.reduceToNat]
end Go.Proofs.YtikmepdhpffdoaaGreat
