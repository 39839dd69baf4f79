/- part of the proof -/
import Derived.Test.YtchlpclgkhggeaaGreatWUm
import Derived.Test.YtchlpclgkhggeaaGreatWSg
namespace Go.Proofs.YtchlpclgkhggeaaGreat
open Go Go.RowKit
set_option maxRecDepth 100000
set_option maxHeartbeats 4000000
set_option linter.unusedVariables false
set_option linter.unusedSimpArgs false
theorem Z2e (p q : Prg) : certQ p q = ((certF p q).1.map qd,(certF p q).2):=by
 unfold certQ certF diffQ
 by_cases h : fitsP p = true
 ·rw [if_pos h]
  by_cases h0 : (lpOf q.lp).1 = 0
  ·rw [if_pos ⟨h,h0⟩,if_pos h0]
  ·rw [if_neg (fun e=>h0 e.2),if_neg h0]; rfl
 ·rw [if_neg (fun e=>h e.1),if_neg h]; rfl
theorem Y8M (p q : Prg) (h0 : p.small) : (certF p q).1.length ≤ 1000:=by
 unfold certF diffQ
 split
 ·rename_i h
  obtain ⟨_,r,c,hr,hc,r9,c16⟩:=Q3h h
  split
  ·rw [Q0r]; omega
  ·exact Nat.zero_le _
 ·exact Nat.zero_le _
theorem X7g (p0 : Prg) (h0 : p0.small) : PC PP Q4F [pV .s p0] (vsS (certF p0 (farkasP p0))) []:=by
 have q:=X7h .s fls p0 h0
 rw [Z2e] at q; exact q
theorem Q8V (f : Fl) (hf : f ≠ .u) (p0 : Prg) (h0 : p0.small) : GC PP Q4I [pV f p0] [] (.tup [.rsl 0 3 0 ((certF p0 (farkasP p0)).1.map qd).length,Bo (certF p0 (farkasP p0)).2]) [⟨.own,Q0m,rsC .u ((certF p0 (farkasP p0)).1.map qd)⟩]:=by
 rw [List.length_map]; exact X7K f hf p0 h0
theorem Y6g (p0 : Prg) (h0 : p0.small) : smallL ((certF p0 (farkasP p0)).1.map qd) ∧ szL ((certF p0 (farkasP p0)).1.map qd) ≤ 100000:=Y2k (Y8M _ _ h0)
theorem X5w (f : Fl) (hf : f ≠ .u) (p0 : Prg) (g0a : p0.a.length ≤ 9223372036854775807) (g0b : p0.b.length ≤ 9223372036854775807) (g0c : p0.c.length ≤ 9223372036854775807) : PC PP Q0y [pV f p0] (Bo true) []:=by
 have hz0:=Y3i f hf p0 g0a g0b g0c
 have hb0:=Z0T p0
 have hs0:=@Y6w p0
 generalize hzz0 : szP p0 = z0 at *
 refine txe Q8e Q2q [] [] [13,17] (by kernel_rfl) ?_
 simp -dsimp(disch:=first|exact om|fail)only[go_sem,simprocAttr,xE,xN,xC,xP,xA,xZ,pC]
 refine callP hz0 (by simp -dsimp(disch:=first|exact om|fail)only[go_sem,simprocAttr,xE,xN,xC,xP,xA,xZ,pC]) ?_
 simp -dsimp(disch:=first|exact om|fail)only[go_sem,simprocAttr,xE,xN,xC,xP,xA,xZ,pC]
 intro qp0
 have s0:=hs0 (by omega)
 have s0k:=Prg.len_le s0
 refine callP (X2a f hf p0 s0) (by simp -dsimp(disch:=first|exact om|fail)only[go_sem,simprocAttr,xE,xN,xC,xP,xA,xZ,pC]) ?_
 simp -dsimp(disch:=first|exact om|fail)only[go_sem,simprocAttr,xE,xN,xC,xP,xA,xZ,pC]
 refine callP (X7g p0 s0) (by simp -dsimp(disch:=first|exact om|fail)only[go_sem,simprocAttr,xE,xN,xC,xP,xA,xZ,pC]) ?_
 simp -dsimp(disch:=first|exact om|fail)only[go_sem,simprocAttr,xE,xN,xC,xP,xA,xZ,pC]
 refine callO' (Y1Y f hf p0 s0) (by simp -dsimp(disch:=first|exact om|fail)only[go_sem,simprocAttr,xE,xN,xC,xP,xA,xZ,pC]) lF ?_
 simp -dsimp(disch:=first|exact om|fail)only[go_sem,simprocAttr,xE,xN,xC,xP,xA,xZ,pC]
 have hig:=Q8V .b flb p0 s0
 have his:=Q8V .s fls p0 s0
 obtain ⟨hSw0,hKw0⟩:=Y6g p0 s0
 generalize (certF p0 (farkasP p0)).1.map qd = w0 at *
 generalize (certF p0 (farkasP p0)).2 = w1 at *
 refine callO' hig (by simp -dsimp(disch:=first|exact om|fail)only[go_sem,simprocAttr,xE,xN,xC,xP,xA,xZ,pC]) lF ?_
 simp -dsimp(disch:=first|exact om|fail)only[go_sem,simprocAttr,xE,xN,xC,xP,xA,xZ,pC]
 refine callP (Y0U .b .s flb fls w0 w0 hSw0) (by simp -dsimp(disch:=first|exact om|fail)only[go_sem,simprocAttr,xE,xN,xC,xP,xA,xZ,pC]) ?_
 simp -dsimp(disch:=first|exact om|fail)only[go_sem,simprocAttr,xE,xN,xC,xP,xA,xZ,pC,bne_self_eq_false]
 refine callP (X2a f hf p0 s0) (by simp -dsimp(disch:=first|exact om|fail)only[go_sem,simprocAttr,xE,xN,xC,xP,xA,xZ,pC]) ?_
 simp -dsimp(disch:=first|exact om|fail)only[go_sem,simprocAttr,xE,xN,xC,xP,xA,xZ,pC]
 refine callP (Y3M .b .s flb fls p0 s0) (by simp -dsimp(disch:=first|exact om|fail)only[go_sem,simprocAttr,xE,xN,xC,xP,xA,xZ,pC]) ?_
 simp -dsimp(disch:=first|exact om|fail)only[go_sem,simprocAttr,xE,xN,xC,xP,xA,xZ,pC]
 have hkp0:=Prg.len_le s0
 refine callG' [1,2,3] (Y0H p0 (1) s0 (by omega)) (by decide) (by simp -dsimp(disch:=first|exact om|fail)only[go_sem,simprocAttr,xE,xN,xC,xP,xA,xZ,pC]) (by simp -dsimp(disch:=first|exact om|fail)only[go_sem,simprocAttr,xE,xN,xC,xP,xA,xZ,pC]) lE lF ?_
 simp -dsimp(disch:=first|exact om|fail)only[go_sem,simprocAttr,xE,xN,xC,xP,xA,xZ,pC]
 refine callP (Y0U .b .s flb fls w0 w0 hSw0) (by simp -dsimp(disch:=first|exact om|fail)only[go_sem,simprocAttr,xE,xN,xC,xP,xA,xZ,pC]) ?_
 simp -dsimp(disch:=first|exact om|fail)only[go_sem,simprocAttr,xE,xN,xC,xP,xA,xZ,pC,bne_self_eq_false]
 refine callG' [5] (Y5I w0 (1) hSw0 (by omega) (by omega)) (by decide) (by simp -dsimp(disch:=first|exact om|fail)only[go_sem,simprocAttr,xE,xN,xC,xP,xA,xZ,pC]) (by simp -dsimp(disch:=first|exact om|fail)only[go_sem,simprocAttr,xE,xN,xC,xP,xA,xZ,pC]) lE lF ?_
 simp -dsimp(disch:=first|exact om|fail)only[go_sem,simprocAttr,xE,xN,xC,xP,xA,xZ,pC]
 have hhw0:=Y5Q .b flb w0 (1) hSw0 (by omega) (by omega)
 refine callP hhw0 (by simp -dsimp(disch:=first|exact om|fail)only[go_sem,simprocAttr,xE,xN,xC,xP,xA,xZ,pC]) ?_
 simp -dsimp(disch:=first|exact om|fail)only[go_sem,simprocAttr,xE,xN,xC,xP,xA,xZ,pC]
 refine callP (X2a f hf p0 s0) (by simp -dsimp(disch:=first|exact om|fail)only[go_sem,simprocAttr,xE,xN,xC,xP,xA,xZ,pC]) ?_
 simp -dsimp(disch:=first|exact om|fail)only[go_sem,simprocAttr,xE,xN,xC,xP,xA,xZ,pC]
 refine callO' his (by simp -dsimp(disch:=first|exact om|fail)only[go_sem,simprocAttr,xE,xN,xC,xP,xA,xZ,pC]) lF ?_
 simp -dsimp(disch:=first|exact om|fail)only[go_sem,simprocAttr,xE,xN,xC,xP,xA,xZ,pC]
 refine callP (Y0U .b .s flb fls w0 w0 hSw0) (by simp -dsimp(disch:=first|exact om|fail)only[go_sem,simprocAttr,xE,xN,xC,xP,xA,xZ,pC]) ?_
 simp -dsimp(disch:=first|exact om|fail)only[go_sem,simprocAttr,xE,xN,xC,xP,xA,xZ,pC,bne_self_eq_false]
 refine callP hhw0 (by simp -dsimp(disch:=first|exact om|fail)only[go_sem,simprocAttr,xE,xN,xC,xP,xA,xZ,pC]) ?_
 simp -dsimp(disch:=first|exact om|fail)only[go_sem,simprocAttr,xE,xN,xC,xP,xA,xZ,pC]
end Go.Proofs.YtchlpclgkhggeaaGreat