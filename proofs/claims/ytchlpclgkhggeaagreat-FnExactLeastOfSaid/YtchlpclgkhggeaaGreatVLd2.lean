/- part of the proof -/
import Derived.Test.YtchlpclgkhggeaaGreatVLd1
namespace Go.Proofs.YtchlpclgkhggeaaGreat
open Go Go.RowKit
set_option maxRecDepth 100000
set_option maxHeartbeats 4000000
set_option linter.unusedVariables false
set_option linter.unusedSimpArgs false
theorem X7K (p0 : Prg) (h0 : p0.small) : PC PP Q5b [pV .s p0] (reV .s (leastQ (solP (leastP p0)))) []:=X7L .s fls p0 h0
theorem X0C (f : Fl) (hf : f ≠ .u) (p0 : Prg) (h0 : p0.small) (hw : wf64 p0.c) : GC PP Q5d [pV f p0] [] (reG (leastQ (solP (leastP p0)))) (reH (leastQ (solP (leastP p0)))):=X7O f hf p0 h0 hw
theorem Y7A (p0 : Prg) (h0 : p0.small) : (leastQ (solP (leastP p0))).small ∧ (szL (leastQ (solP (leastP p0))).x ≤ 100000 ∧ (leastQ (solP (leastP p0))).sz ≤ 100200):=by
 obtain ⟨⟨h1,h2⟩,h3,h4⟩:=Y8L (leastP p0)
 obtain ⟨v,hv⟩:=X9q (leastP p0)
 unfold leastQ
 split
 ·rw [hv,X1Z]
  have:=qd_sz v.neg
  exact ⟨⟨h1,Q5S _⟩,h3,by show szL (solP (leastP p0)).x + (qd v.neg).sz ≤ _; omega⟩
 ·exact ⟨⟨h1,h2⟩,h3,by omega⟩
theorem X5J (f : Fl) (hf : f ≠ .u) (p0 : Prg) (g0a : p0.a.length ≤ 9223372036854775807) (g0b : p0.b.length ≤ 9223372036854775807) (g0c : p0.c.length ≤ 9223372036854775807) (g0w : wf64 p0.c) : PC PP Q0A [pV f p0] (Bo true) []:=by
 have hz0:=Y2b f hf p0 g0a g0b g0c
 have hb0:=Y9s p0
 have hs0:=@Y5h p0
 generalize hzz0 : szP p0 = z0 at *
 refine txe Q8J Q2o [] [] [13,17] (by kernel_rfl) ?_
 simp -dsimp(disch:=first|exact om|fail)only[go_sem,simprocAttr,xE,xN,xC,xP,xA,xZ,pC,reC]
 refine callP hz0 (by simp -dsimp(disch:=first|exact om|fail)only[go_sem,simprocAttr,xE,xN,xC,xP,xA,xZ,pC,reC]) ?_
 simp -dsimp(disch:=first|exact om|fail)only[go_sem,simprocAttr,xE,xN,xC,xP,xA,xZ,pC,reC]
 intro qp0
 have s0:=hs0 (by omega)
 have s0k:=Prg.len_le s0
 refine callP (X1n f hf p0 s0) (by simp -dsimp(disch:=first|exact om|fail)only[go_sem,simprocAttr,xE,xN,xC,xP,xA,xZ,pC,reC]) ?_
 simp -dsimp(disch:=first|exact om|fail)only[go_sem,simprocAttr,xE,xN,xC,xP,xA,xZ,pC,reC]
 refine callP (X7K p0 s0) (by simp -dsimp(disch:=first|exact om|fail)only[go_sem,simprocAttr,xE,xN,xC,xP,xA,xZ,pC,reC]) ?_
 simp -dsimp(disch:=first|exact om|fail)only[go_sem,simprocAttr,xE,xN,xC,xP,xA,xZ,pC,reC]
 refine callO' (Y0P f hf p0 s0) (by simp -dsimp(disch:=first|exact om|fail)only[go_sem,simprocAttr,xE,xN,xC,xP,xA,xZ,pC,reC]) lF ?_
 simp -dsimp(disch:=first|exact om|fail)only[go_sem,simprocAttr,xE,xN,xC,xP,xA,xZ,pC,reC]
 have hig:=X0C .b flb p0 s0 g0w
 have his:=X0C .s fls p0 s0 g0w
 obtain ⟨hSw0,hKw0⟩:=Y7A p0 s0
 generalize leastQ (solP (leastP p0)) = w0 at *
 refine callO' hig (by simp -dsimp(disch:=first|exact om|fail)only[go_sem,simprocAttr,xE,xN,xC,xP,xA,xZ,pC,reC]) lF ?_
 simp -dsimp(disch:=first|exact om|fail)only[go_sem,simprocAttr,xE,xN,xC,xP,xA,xZ,pC,reC]
 refine callP (X4k .b .s flb fls w0 w0 hSw0) (by simp -dsimp(disch:=first|exact om|fail)only[go_sem,simprocAttr,xE,xN,xC,xP,xA,xZ,pC,reC]) ?_
 simp -dsimp(disch:=first|exact om|fail)only[go_sem,simprocAttr,xE,xN,xC,xP,xA,xZ,pC,reC,bne_self_eq_false]
 refine callP (X1n f hf p0 s0) (by simp -dsimp(disch:=first|exact om|fail)only[go_sem,simprocAttr,xE,xN,xC,xP,xA,xZ,pC,reC]) ?_
 simp -dsimp(disch:=first|exact om|fail)only[go_sem,simprocAttr,xE,xN,xC,xP,xA,xZ,pC,reC]
 refine callP (Y2D .b .s flb fls p0 s0) (by simp -dsimp(disch:=first|exact om|fail)only[go_sem,simprocAttr,xE,xN,xC,xP,xA,xZ,pC,reC]) ?_
 simp -dsimp(disch:=first|exact om|fail)only[go_sem,simprocAttr,xE,xN,xC,xP,xA,xZ,pC,reC]
 have hkp0:=Prg.len_le s0
 refine callG' [2,3,4] (X9D p0 (1) s0 (by omega)) (by decide) (by simp -dsimp(disch:=first|exact om|fail)only[go_sem,simprocAttr,xE,xN,xC,xP,xA,xZ,pC,reC]) (by simp -dsimp(disch:=first|exact om|fail)only[go_sem,simprocAttr,xE,xN,xC,xP,xA,xZ,pC,reC]) lE lF ?_
 simp -dsimp(disch:=first|exact om|fail)only[go_sem,simprocAttr,xE,xN,xC,xP,xA,xZ,pC,reC]
 refine callP (X4k .b .s flb fls w0 w0 hSw0) (by simp -dsimp(disch:=first|exact om|fail)only[go_sem,simprocAttr,xE,xN,xC,xP,xA,xZ,pC,reC]) ?_
 simp -dsimp(disch:=first|exact om|fail)only[go_sem,simprocAttr,xE,xN,xC,xP,xA,xZ,pC,reC,bne_self_eq_false]
 refine callG' [6,7,8] (Y1n w0 (1) hSw0 (by omega) (by omega)) (by decide) (by simp -dsimp(disch:=first|exact om|fail)only[go_sem,simprocAttr,xE,xN,xC,xP,xA,xZ,pC,reC]) (by simp -dsimp(disch:=first|exact om|fail)only[go_sem,simprocAttr,xE,xN,xC,xP,xA,xZ,pC,reC]) lE lF ?_
 simp -dsimp(disch:=first|exact om|fail)only[go_sem,simprocAttr,xE,xN,xC,xP,xA,xZ,pC,reC]
 have hhw0:=Y1v .b flb w0 (1) hSw0 (by omega) (by omega)
 refine callP hhw0 (.cons _ _ _ _ (Y3I rfl rfl rfl) (.cons _ _ _ _ (.lit _) .nil)) ?_
 simp -dsimp(disch:=first|exact om|fail)only[go_sem,simprocAttr,xE,xN,xC,xP,xA,xZ,pC,reC]
 refine callP (X1n f hf p0 s0) (by simp -dsimp(disch:=first|exact om|fail)only[go_sem,simprocAttr,xE,xN,xC,xP,xA,xZ,pC,reC]) ?_
 simp -dsimp(disch:=first|exact om|fail)only[go_sem,simprocAttr,xE,xN,xC,xP,xA,xZ,pC,reC]
 refine callO' his (by simp -dsimp(disch:=first|exact om|fail)only[go_sem,simprocAttr,xE,xN,xC,xP,xA,xZ,pC,reC]) lF ?_
 simp -dsimp(disch:=first|exact om|fail)only[go_sem,simprocAttr,xE,xN,xC,xP,xA,xZ,pC,reC]
 refine callP (X4k .b .s flb fls w0 w0 hSw0) (by simp -dsimp(disch:=first|exact om|fail)only[go_sem,simprocAttr,xE,xN,xC,xP,xA,xZ,pC,reC]) ?_
 simp -dsimp(disch:=first|exact om|fail)only[go_sem,simprocAttr,xE,xN,xC,xP,xA,xZ,pC,reC,bne_self_eq_false]
 refine callP hhw0 (.cons _ _ _ _ (Y3I rfl rfl rfl) (.cons _ _ _ _ (.lit _) .nil)) ?_
 simp -dsimp(disch:=first|exact om|fail)only[go_sem,simprocAttr,xE,xN,xC,xP,xA,xZ,pC,reC]
end Go.Proofs.YtchlpclgkhggeaaGreat