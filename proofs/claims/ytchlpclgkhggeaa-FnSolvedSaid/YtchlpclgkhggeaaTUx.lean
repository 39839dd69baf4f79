/- part of the proof -/
import Derived.Test.YtchlpclgkhggeaaTUw
namespace Go.Proofs.Ytchlpclgkhggeaa
open Go Go.RowKit
set_option maxRecDepth 100000
set_option maxHeartbeats 4000000
set_option linter.unusedVariables false
set_option linter.unusedSimpArgs false
theorem FnSolved_s (l : List Int) : PC PP F_laws_FnSolved [byV .s l] (Bo true) [] := by
 by_cases hl : l.length ≤ 1048576
 ·have q1 := MakeProgram_s l hl
  obtain ⟨ho, r, c, hr, hc, _, r3, _, c5⟩ := drwP_ok l (CS.new l)
  generalize drwP l (CS.new l) = p at *
  have hp := okP_small ho
  have q2 := impl_SolveProgram_c .s fls p hp
  have hsm := solP_small p
  have q3 := impl_DualOf_s p hp
  have q4 := impl_FarkasOf_s p hp
  have q5 := impl_HasSolution_c .s fls p hp
  have hn : ¬ (l.length : Int) > 1048576 := by omega
  rcases cert_facts ho hr hc r3 c5 with ⟨X, w, g, e1, e2, e3, e4, e5, e6, e7⟩ | ⟨g, e1, e2, e3, e4⟩ | ⟨e1, e2, e3⟩
  ·rw [e1] at q2 hsm
   rw [e2] at q3
   rw [e3] at q4
   rw [e6] at q5
   have q6 := impl_CheckResult_c .s .s .s fls fls fls p ⟨0, X, w⟩ ((rowQ r g).map qd) hp hsm (qdl_small (by rw [rowQ_length]; omega)).1
   have q7 := impl_IsFeasible_c .s .s fls fls p X hp e7
   rw [e4] at q6
   rw [e5] at q7
   simp only [reV, reC] at q2 q6
   refine tx W_laws_FnSolved ke_laws_FnSolved [] (by kernel_rfl) ?_
   simp -dsimp(disch:=first|exact om|fail)only[go_sem,simprocAttr,xE,xN,xC,xP,xA,xZ, hn]
   refine callP q1 lL ?_
   simp -dsimp(disch:=first|exact om|fail)only[go_sem,simprocAttr,xE,xN,xC,xP,xA,xZ, pC]
   refine callP q2 (by simp -dsimp(disch:=first|exact om|fail)only[go_sem,simprocAttr,xE,xN,xC,xP,xA,xZ, pC]) ?_
   simp -dsimp(disch:=first|exact om|fail)only[go_sem,simprocAttr,xE,xN,xC,xP,xA,xZ, pC]
   refine callP q3 (by simp -dsimp(disch:=first|exact om|fail)only[go_sem,simprocAttr,xE,xN,xC,xP,xA,xZ, pC]) ?_
   simp -dsimp(disch:=first|exact om|fail)only[go_sem,simprocAttr,xE,xN,xC,xP,xA,xZ, pC]
   refine callP q4 (by simp -dsimp(disch:=first|exact om|fail)only[go_sem,simprocAttr,xE,xN,xC,xP,xA,xZ, pC]) ?_
   simp -dsimp(disch:=first|exact om|fail)only[go_sem,simprocAttr,xE,xN,xC,xP,xA,xZ, pC]
   refine callP q6 (by simp -dsimp(disch:=first|exact om|fail)only[go_sem,simprocAttr,xE,xN,xC,xP,xA,xZ, pC]) ?_
   simp -dsimp(disch:=first|exact om|fail)only[go_sem,simprocAttr,xE,xN,xC,xP,xA,xZ, pC]
   refine callP q7 (by simp -dsimp(disch:=first|exact om|fail)only[go_sem,simprocAttr,xE,xN,xC,xP,xA,xZ, pC]) ?_
   simp -dsimp(disch:=first|exact om|fail)only[go_sem,simprocAttr,xE,xN,xC,xP,xA,xZ, pC]
   refine callP q5 (by simp -dsimp(disch:=first|exact om|fail)only[go_sem,simprocAttr,xE,xN,xC,xP,xA,xZ, pC]) ?_
   simp -dsimp(disch:=first|exact om|fail)only[go_sem,simprocAttr,xE,xN,xC,xP,xA,xZ, pC]
  ·rw [e1] at q2 hsm
   rw [e2] at q4
   rw [e4] at q5
   have q6 := impl_CheckResult_c .s .s .s fls fls fls p ⟨2, [], RD.zero⟩ ((rowQ r g).map qd) hp hsm (qdl_small (by rw [rowQ_length]; omega)).1
   rw [e3] at q6
   simp only [reV, reC] at q2 q6
   refine tx W_laws_FnSolved ke_laws_FnSolved [] (by kernel_rfl) ?_
   simp -dsimp(disch:=first|exact om|fail)only[go_sem,simprocAttr,xE,xN,xC,xP,xA,xZ, hn]
   refine callP q1 lL ?_
   simp -dsimp(disch:=first|exact om|fail)only[go_sem,simprocAttr,xE,xN,xC,xP,xA,xZ, pC]
   refine callP q2 (by simp -dsimp(disch:=first|exact om|fail)only[go_sem,simprocAttr,xE,xN,xC,xP,xA,xZ, pC]) ?_
   simp -dsimp(disch:=first|exact om|fail)only[go_sem,simprocAttr,xE,xN,xC,xP,xA,xZ, pC]
   refine callP q4 (by simp -dsimp(disch:=first|exact om|fail)only[go_sem,simprocAttr,xE,xN,xC,xP,xA,xZ, pC]) ?_
   simp -dsimp(disch:=first|exact om|fail)only[go_sem,simprocAttr,xE,xN,xC,xP,xA,xZ, pC]
   refine callP q6 (by simp -dsimp(disch:=first|exact om|fail)only[go_sem,simprocAttr,xE,xN,xC,xP,xA,xZ, pC]) ?_
   simp -dsimp(disch:=first|exact om|fail)only[go_sem,simprocAttr,xE,xN,xC,xP,xA,xZ, pC]
   refine callP q5 (by simp -dsimp(disch:=first|exact om|fail)only[go_sem,simprocAttr,xE,xN,xC,xP,xA,xZ, pC]) ?_
   simp -dsimp(disch:=first|exact om|fail)only[go_sem,simprocAttr,xE,xN,xC,xP,xA,xZ, pC]
  ·have q6 := impl_CheckResult_c .s .s .s fls fls fls p ⟨3, [], RD.zero⟩ [] hp (by rw [e1] at hsm; exact hsm) ⟨by decide, fun r hr => by cases hr⟩
   rw [show chkB p ⟨3, [], RD.zero⟩ [] = false by unfold chkB; rw [if_neg (by show ¬ (3 : Int) = 2; decide), if_neg (by show ¬ (3 : Int) = 0; decide)]] at q6
   rw [e1] at q2 hsm
   rw [e2] at q3
   rw [e3] at q5
   simp only [reV, reC] at q2 q6
   refine tx W_laws_FnSolved ke_laws_FnSolved [] (by kernel_rfl) ?_
   simp -dsimp(disch:=first|exact om|fail)only[go_sem,simprocAttr,xE,xN,xC,xP,xA,xZ, hn]
   refine callP q1 lL ?_
   simp -dsimp(disch:=first|exact om|fail)only[go_sem,simprocAttr,xE,xN,xC,xP,xA,xZ, pC]
   refine callP q2 (by simp -dsimp(disch:=first|exact om|fail)only[go_sem,simprocAttr,xE,xN,xC,xP,xA,xZ, pC]) ?_
   simp -dsimp(disch:=first|exact om|fail)only[go_sem,simprocAttr,xE,xN,xC,xP,xA,xZ, pC]
   refine callP q3 (by simp -dsimp(disch:=first|exact om|fail)only[go_sem,simprocAttr,xE,xN,xC,xP,xA,xZ, pC]) ?_
   simp -dsimp(disch:=first|exact om|fail)only[go_sem,simprocAttr,xE,xN,xC,xP,xA,xZ, pC]
   refine callP q5 (by simp -dsimp(disch:=first|exact om|fail)only[go_sem,simprocAttr,xE,xN,xC,xP,xA,xZ, pC]) ?_
   simp -dsimp(disch:=first|exact om|fail)only[go_sem,simprocAttr,xE,xN,xC,xP,xA,xZ, pC]
   refine callP q6 (by simp -dsimp(disch:=first|exact om|fail)only[go_sem,simprocAttr,xE,xN,xC,xP,xA,xZ, pC]) ?_
   simp -dsimp(disch:=first|exact om|fail)only[go_sem,simprocAttr,xE,xN,xC,xP,xA,xZ, pC]
 ·have hn : (l.length : Int) > 1048576 := by omega
  refine tx W_laws_FnSolved ke_laws_FnSolved [] (by kernel_rfl) ?_
  simp -dsimp(disch:=first|exact om|fail)only[go_sem,simprocAttr,xE,xN,xC,xP,xA,xZ, hn]
theorem FnSolved_c (f : Fl) (hf : f ≠ .u) (l : List Int) (hl : l.length ≤ 9223372036854775807) : PC PP F_laws_FnSolved [byV f l] (Bo true) [] := by_lent (FnSolved_s l) f hf
end Go.Proofs.Ytchlpclgkhggeaa