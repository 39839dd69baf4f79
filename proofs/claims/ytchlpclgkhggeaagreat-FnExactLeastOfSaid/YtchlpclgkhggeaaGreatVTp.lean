/- part of the proof -/
import Derived.Test.YtchlpclgkhggeaaGreatVUa
import Derived.Test.YtchlpclgkhggeaaGreatVWb
namespace Go.Proofs.YtchlpclgkhggeaaGreat
open Go Go.RowKit
set_option maxRecDepth 100000
set_option maxHeartbeats 4000000
set_option linter.unusedVariables false
set_option linter.unusedSimpArgs false
noncomputable def solP (p : Prg) : QD:=if okP' p = true then lpR p else ⟨1,[],RD.zero⟩
theorem X1o (f : Fl) (hf : f ≠ .u) (p : Prg) (hp : p.small) : PC PP Q4e [pV f p] (reV .s (solP p)) []:=by
 have hP:=X5j f hf p hp
 have hS:=Y2w f hf p
 refine tx X1H Q3i [] (by kernel_rfl) ?_
 cases ho : okP' p
 ·rw [ho] at hP
  rw [show solP p = ⟨1,[],RD.zero⟩ by unfold solP; rw [ho]; rfl]
  simp -dsimp(disch:=first|exact om|fail)only[go_sem,simprocAttr,xE,xN,xC,xP,xA,xZ,pC]
  refine callP hP (by simp -dsimp(disch:=first|exact om|fail)only[go_sem,simprocAttr,xE,xN,xC,xP,xA,xZ,pC]) ?_
  simp -dsimp(disch:=first|exact om|fail)only[go_sem,simprocAttr,xE,xN,xC,xP,xA,xZ]
  exact .cons _ _ _ _ (.lit _) (.cons _ _ _ _ (.esl _ _) (.cons _ _ _ _ (.lit _) (.cons _ _ _ _ (.esl _ _) (.cons _ _ _ _ (.esl _ _) .nil))))
 ·rw [ho] at hP
  have hS:=hS ho
  rw [show solP p = lpR p from if_pos ho]
  generalize lpR p = q at *
  simp -dsimp(disch:=first|exact om|fail)only[go_sem,simprocAttr,xE,xN,xC,xP,xA,xZ,pC]
  refine callP hP (by simp -dsimp(disch:=first|exact om|fail)only[go_sem,simprocAttr,xE,xN,xC,xP,xA,xZ,pC]) ?_
  simp -dsimp(disch:=first|exact om|fail)only[go_sem,simprocAttr,xE,xN,xC,xP,xA,xZ]
  simp only [reV,reC] at hS ⊢
  refine callP hS (by simp -dsimp(disch:=first|exact om|fail)only[go_sem,simprocAttr,xE,xN,xC,xP,xA,xZ,pC]) ?_
  simp -dsimp(disch:=first|exact om|fail)only[go_sem,simprocAttr,xE,xN,xC,xP,xA,xZ]
end Go.Proofs.YtchlpclgkhggeaaGreat