/- part of the proof -/
import Derived.Test.YtchlpclgkhggeaaGreatTWa
import Derived.Test.YtchlpclgkhggeaaGreatTAz
namespace Go.Proofs.YtchlpclgkhggeaaGreat
open Go Go.RowKit
set_option maxRecDepth 100000
set_option maxHeartbeats 4000000
set_option linter.unusedVariables false
set_option linter.unusedSimpArgs false
def Prg.zero : Prg:=⟨0,0,[],[],[]⟩
@[go_sem] theorem Z9D : Prg.zero.rows = 0:=(rfl)
@[go_sem] theorem Z9E : Prg.zero.cols = 0:=(rfl)
@[go_sem] theorem pz_a : Prg.zero.a = []:=(rfl)
@[go_sem] theorem pz_b : Prg.zero.b = []:=(rfl)
@[go_sem] theorem pz_c : Prg.zero.c = []:=(rfl)
def zerosL (n : Nat) : List Int:=List.replicate n 0
def dualP (p : Prg) : Prg:=if fitsP p = true then ⟨p.cols,2 * p.rows + p.cols,rowsL p p.cols.toNat,p.c,negL p.b ++ p.b ++ zerosL p.cols.toNat⟩ else Prg.zero
theorem Y6g {l : List Int} (h : inB (-100) 100 l = true) {i : Nat} (hi : i < l.length) : -100 ≤ l.getD i 0 ∧ l.getD i 0 ≤ 100:=by
 have:=Y1o hi h
 simpa using this
theorem X2C (f : Fl) (hf : f ≠ .u) (p : Prg) (hp : p.small) : PC PP Q5e [pV f p] (pV .s (dualP p)) []:=by
 cases ho : fitsP p
 ·rw [show dualP p = Prg.zero by unfold dualP; rw [ho]; rfl]
  refine tx Q5a Q1P [] (by kernel_rfl) ?_
  simp -dsimp(disch:=first|exact om|fail)only[go_sem,simprocAttr,xE,xN,xC,xP,xA,xZ,pC]
  have q:=X7z f hf p hp
  rw [ho] at q
  simp only [pV,pC] at q
  refine callP q lL ?_
  simp -dsimp(disch:=first|exact om|fail)only[go_sem,simprocAttr,xE,xN,xC,xP,xA,xZ,pC]
 ·have q:=X7z f hf p hp
  have q2:=Y7H f hf p ho
  obtain ⟨hok,r,c,hr,hc,r9,c16⟩:=Q3d ho
  obtain ⟨_,_,_,hbl,hcl,_,hbr,_⟩:=Q0D hok
  have hbL : p.b.length = r:=by omega
  have hcL : p.c.length = c:=by omega
  have ec : p.cols.toNat = c:=by omega
  rw [ho] at q
  rw [show dualP p = ⟨c,(2 * r + c : Nat),rowsL p c,p.c,negL p.b ++ p.b ++ zerosL c⟩ by unfold dualP; rw [if_pos ho,ec,hr,hc]; simp]
  have hNl : (negL p.b).length = r:=by rw [Q1l,hbL]
  have hNg : ∀ i,i < r → (negL p.b).getD i 0 = -p.b.getD i 0:=fun i hi=>Q8z (by omega)
  have hbr':=fun i (hi : i < r)=>Y6g hbr (i:=i) (by omega)
  rw [ec] at q2
  simp only [pV,pC,hr,hc] at q q2
  generalize negL p.b = D at *
  refine txe Q5a Q1P [(11,[2,6])] [] [10] (by kernel_rfl) ?_
  simp -dsimp(disch:=first|exact om|fail)only[go_sem,simprocAttr,xE,xN,xC,xP,xA,xZ,pC,hr,hc]
  refine callP q lL ?_
  simp -dsimp(disch:=first|exact om|fail)only[go_sem,simprocAttr,xE,xN,xC,xP,xA,xZ]
  refine callP q2 lL ?_
  simp -dsimp(disch:=first|exact om|fail)only[go_sem,simprocAttr,xE,xN,xC,xP,xA,xZ]
  refine loopJ (fun k : Nat=>k ≤ r) (fun k=>⟨[(1,.ref 0 0),(2,.ref 1 0),(3,.ref 3 0),(26,sI f p.b),(27,I r),(28,I k)],[⟨.own,Q0h,[I r,I c,sI f p.a,sI f p.b,sI f p.c]⟩,⟨.own,Q0h,[I 0,I 0,.emp,.emp,.emp]⟩,⟨.own,T_int,iC p.c⟩,⟨.own,Q0h,[I c,I (2 * r + c),sI .s (rowsL p c),.rsl 2 1 0 p.c.length,.rsl 4 1 0 k]⟩,⟨.own,T_int,iC (D.take k)⟩]⟩) (fun k=>r - k) 0 (by omega) ?_ ?_
  ·exact StI.ren [some 0,some 1,some 2,some 3,none] [[],[],[],[],[]] lE (by decide) (by simp -dsimp(disch:=first|exact om|fail)only[go_sem,simprocAttr,xE,xN,xC,xP,xA,xZ,List.take_zero]; rfl) (by simp -dsimp(disch:=first|exact om|fail)only[go_sem,simprocAttr,xE,xN,xC,xP,xA,xZ,hbL])
  intro k hk
  by_cases h : k < r
  ·have hb:=hbr' k h
   have hg:=hNg k h
   simp -dsimp(disch:=first|exact om|fail)only[go_sem,simprocAttr,xE,xN,xC,xP,xA,xZ]
   refine ⟨k + 1,by omega,by omega, ?_⟩
   rw [X2z (l:=D) (by omega),hg]
   exact StI.ren [some 0,some 1,some 2,some 3,some 5] [[],[],[],[],[]] lE (by decide) lW lW
  ·obtain rfl : k = r:=by omega
   rw [show D.take k = D by rw [List.take_of_length_le (by omega)]]
   simp -dsimp(disch:=first|exact om|fail)only[go_sem,simprocAttr,xE,xN,xC,xP,xA,xZ,Q2q]
   refine ⟨hNl, ?_⟩
   refine apzI (l:=D ++ p.b) (n:=k + p.b.length) (m:=c) ?_ ?_ ?_ ?_
   ·rfl
   ·rw [List.length_append]; omega
   ·omega
   have el : (D ++ p.b ++ List.replicate c 0).length = k + p.b.length + c:=by rw [List.length_append,List.length_append,List.length_replicate,hNl]
   have ec2 : ((2 * k + c : Nat) : Int) = 2 * (k : Int) + (c : Int):=by omega
   rw [show zerosL c = List.replicate c 0 from rfl]
   generalize D ++ p.b ++ List.replicate c 0 = E at *
   rw [← el]
   simp -dsimp(disch:=first|exact om|fail)only[go_sem,simprocAttr,xE,xN,xC,xP,xA,xZ,pC,ec2]
end Go.Proofs.YtchlpclgkhggeaaGreat