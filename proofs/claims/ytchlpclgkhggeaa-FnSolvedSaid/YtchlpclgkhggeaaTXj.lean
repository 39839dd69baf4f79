/- part of the proof -/
import Derived.Test.YtchlpclgkhggeaaTXi
namespace Go.Proofs.Ytchlpclgkhggeaa
open Go Go.RowKit
set_option maxRecDepth 100000
set_option maxHeartbeats 4000000
set_option linter.unusedVariables false
set_option linter.unusedSimpArgs false
noncomputable def chkB (p : Prg) (q : QD) (y : List RD) : Bool :=
 if q.code = 2 then farkB p y else if q.code = 0 then feasB p q.x && (objQ p q.x).good && (bndQ p y).good && decide (qd (objQ p q.x) = q.value) && dualB p y && decide (qd (bndQ p y) = q.value) else false
theorem impl_CheckResult_c (f g h : Fl) (hf : f ≠ .u) (hg : g ≠ .u) (hh : h ≠ .u) (p : Prg) (q : QD) (y : List RD) (hp : p.small) (hq : q.small) (hy : smallL y) : PC PP F_impl_CheckResult [pV f p, reV g q, sR h y] (Bo (chkB p q y)) [] := by
 unfold chkB
 refine tx W_impl_CheckResult ke_impl_CheckResult [] (by kernel_rfl) ?_
 by_cases h2 : q.code = 2
 ·rw [if_pos h2]
  simp -dsimp(disch:=first|exact om|fail)only[go_sem,simprocAttr,xE,xN,xC,xP,xA,xZ, pC, reC, h2]
  refine callP (impl_IsFarkas_c f h hf hh p y hp hy) (by simp -dsimp(disch:=first|exact om|fail)only[go_sem,simprocAttr,xE,xN,xC,xP,xA,xZ, pC]) ?_
  simp -dsimp(disch:=first|exact om|fail)only[go_sem,simprocAttr,xE,xN,xC,xP,xA,xZ]
 ·rw [if_neg h2]
  by_cases h0 : q.code = 0
  ·rw [if_pos h0]
   have q1 := impl_ObjectiveAt_g f g hf hg p q.x hp hq.1
   have q2 := impl_BoundAt_g f h hf hh p y hp hy
   have q3 := impl_IsFeasible_c f g hf hg p q.x hp hq.1
   have q4 := impl_IsDual_c f h hf hh p y hp hy
   have q5 := impl_RatEqual_c .b g flb hg (qd (objQ p q.x)) q.value (qd_small _).fit hq.2.fit
   have q6 := impl_RatEqual_c .b g flb hg (qd (bndQ p y)) q.value (qd_small _).fit hq.2.fit
   generalize objQ p q.x = X at *
   generalize bndQ p y = Y at *
   generalize feasB p q.x = bF at *
   generalize dualB p y = bD at *
   generalize hb5 : decide (qd X = q.value) = b5 at *
   generalize hb6 : decide (qd Y = q.value) = b6 at *
   simp -dsimp(disch:=first|exact om|fail)only[go_sem,simprocAttr,xE,xN,xC,xP,xA,xZ, pC, reC, h0]
   refine callO' q1 (by simp -dsimp(disch:=first|exact om|fail)only[go_sem,simprocAttr,xE,xN,xC,xP,xA,xZ, pC]) lF ?_
   simp -dsimp(disch:=first|exact om|fail)only[go_sem,simprocAttr,xE,xN,xC,xP,xA,xZ]
   refine callO' q2 (by simp -dsimp(disch:=first|exact om|fail)only[go_sem,simprocAttr,xE,xN,xC,xP,xA,xZ, pC]) lF ?_
   cases hX : X.good
   ·simp -dsimp(disch:=first|exact om|fail)only[go_sem,simprocAttr,xE,xN,xC,xP,xA,xZ, Bool.false_and, Bool.and_false, hX]
   ·rw [Bool.and_true]
    cases hY : Y.good
    ·simp -dsimp(disch:=first|exact om|fail)only[go_sem,simprocAttr,xE,xN,xC,xP,xA,xZ, Bool.false_and, Bool.and_false, hX, hY]
    ·rw [Bool.and_true]
     simp -dsimp(disch:=first|exact om|fail)only[go_sem,simprocAttr,xE,xN,xC,xP,xA,xZ, hX, hY]
     refine callP q3 (by simp -dsimp(disch:=first|exact om|fail)only[go_sem,simprocAttr,xE,xN,xC,xP,xA,xZ, pC]) ?_
     cases bF
     ·simp -dsimp(disch:=first|exact om|fail)only[go_sem,simprocAttr,xE,xN,xC,xP,xA,xZ, Bool.false_and]
     ·rw [Bool.true_and]
      simp -dsimp(disch:=first|exact om|fail)only[go_sem,simprocAttr,xE,xN,xC,xP,xA,xZ]
      refine callP q4 (by simp -dsimp(disch:=first|exact om|fail)only[go_sem,simprocAttr,xE,xN,xC,xP,xA,xZ, pC]) ?_
      cases bD
      ·simp -dsimp(disch:=first|exact om|fail)only[go_sem,simprocAttr,xE,xN,xC,xP,xA,xZ, Bool.false_and, Bool.and_false]
      ·rw [Bool.and_true]
       simp -dsimp(disch:=first|exact om|fail)only[go_sem,simprocAttr,xE,xN,xC,xP,xA,xZ]
       refine callP q5 lL ?_
       cases b5
       ·simp -dsimp(disch:=first|exact om|fail)only[go_sem,simprocAttr,xE,xN,xC,xP,xA,xZ, Bool.false_and]
       ·rw [Bool.true_and]
        simp -dsimp(disch:=first|exact om|fail)only[go_sem,simprocAttr,xE,xN,xC,xP,xA,xZ]
        refine callP q6 lL ?_
        simp -dsimp(disch:=first|exact om|fail)only[go_sem,simprocAttr,xE,xN,xC,xP,xA,xZ]
  ·rw [if_neg h0]
   simp -dsimp(disch:=first|exact om|fail)only[go_sem,simprocAttr,xE,xN,xC,xP,xA,xZ, pC, reC, h2, h0]
end Go.Proofs.Ytchlpclgkhggeaa