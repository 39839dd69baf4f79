/- part of the proof -/
import Derived.Test.YtchlpclgkhggeaaGreatWWb
namespace Go.Proofs.YtchlpclgkhggeaaGreat
open Go Go.RowKit
set_option maxRecDepth 100000
set_option maxHeartbeats 4000000
set_option linter.unusedVariables false
set_option linter.unusedSimpArgs false
def farkasP (p : Prg) : Prg:=if fitsP p = true then ⟨p.cols + 1,2 * p.rows + p.cols,rowsL p p.cols.toNat ++ p.b ++ negL p.b ++ zerosL p.cols.toNat,zerosL p.cols.toNat ++ [-1],zerosL (2 * p.rows + p.cols).toNat⟩ else Prg.zero
theorem X0d (f : Fl) (hf : f ≠ .u) (p : Prg) (hp : p.small) : PC PP Q3U [pV f p] (pV .s (farkasP p)) []:=by
 cases ho : fitsP p
 ·rw [show farkasP p = Prg.zero by unfold farkasP; rw [ho]; rfl]
  refine tx Q3S Q1z [] (by kernel_rfl) ?_
  simp -dsimp(disch:=first|exact om|fail)only[go_sem,simprocAttr,xE,xN,xC,xP,xA,xZ,pC]
  have q:=X7I f hf p hp
  rw [ho] at q
  simp only [pV,pC] at q
  refine callP q lL ?_
  simp -dsimp(disch:=first|exact om|fail)only[go_sem,simprocAttr,xE,xN,xC,xP,xA,xZ,pC]
 ·have q:=X7I f hf p hp
  have q2:=Y7N f hf p ho
  obtain ⟨hok,r,c,hr,hc,r9,c16⟩:=Q3h ho
  obtain ⟨_,_,_,hbl,hcl,_,hbr,_⟩:=Q0F hok
  have hbL : p.b.length = r:=by omega
  have ec : p.cols.toNat = c:=by omega
  rw [ho] at q
  rw [show farkasP p = ⟨(c : Int) + 1,2 * (r : Int) + c,rowsL p c ++ p.b ++ negL p.b ++ zerosL c,zerosL c ++ [-1],zerosL (2 * r + c)⟩ by unfold farkasP; rw [if_pos ho,ec,hr,hc,show (2 * (r : Int) + (c : Int)).toNat = 2 * r + c by omega]]
  have hNl : (negL p.b).length = r:=by rw [Q1l,hbL]
  have hNg : ∀ i,i < r → (negL p.b).getD i 0 = -p.b.getD i 0:=fun i hi=>X3d (by omega)
  have hbr':=fun i (hi : i < r)=>Y6o hbr (i:=i) (by omega)
  have hA:=Y4z hr hc r9 c16 (Nat.le_refl c)
  rw [ec] at q2
  simp only [pV,pC,hr,hc] at q q2
  generalize negL p.b = D at *
  generalize rowsL p c = A at *
  refine txe Q3S Q1z [(12,[3,6,7])] [] [10] (by kernel_rfl) ?_
  simp -dsimp(disch:=first|exact om|fail)only[go_sem,simprocAttr,xE,xN,xC,xP,xA,xZ,pC,hr,hc]
  refine callP q lL ?_
  simp -dsimp(disch:=first|exact om|fail)only[go_sem,simprocAttr,xE,xN,xC,xP,xA,xZ]
  refine callO' q2 lL lF ?_
  have hN : (2 * (r : Int) + (c : Int)).toNat = 2 * r + c:=by omega
  simp -dsimp(disch:=first|exact om|fail)only[go_sem,simprocAttr,xE,xN,xC,xP,xA,xZ,hN]
  refine loopJ (fun k : Nat=>k ≤ r) (fun k=>⟨[(1,.ref 0 0),(2,.ref 1 0),(3,.ref 4 0),(39,sI f p.b),(40,I r),(41,I k)],[⟨.own,Q0f,[I r,I c,sI f p.a,sI f p.b,sI f p.c]⟩,⟨.own,Q0f,[I 0,I 0,.emp,.emp,.emp]⟩,⟨.own,T_int,iC (List.replicate c 0)⟩,⟨.own,T_int,iC (List.replicate (2 * r + c) 0)⟩,⟨.own,Q0f,[I ((c : Int) + 1),I (2 * r + c),.rsl 5 1 0 (A.length + r + k),.rsl 2 1 0 c,.rsl 3 1 0 (2 * r + c)]⟩,⟨.own,T_int,iC (A ++ p.b ++ D.take k)⟩]⟩) (fun k=>r - k) 0 (by omega) ?_ ?_
  ·exact StI.ren [some 0,some 1,some 2,some 3,some 4,some 6] [[],[],[],[],[],[]] lE (by decide) (by simp -dsimp(disch:=first|exact om|fail)only[go_sem,simprocAttr,xE,xN,xC,xP,xA,xZ,List.take_zero,List.append_nil,Q2t,hbL,Nat.add_zero]) (by simp -dsimp(disch:=first|exact om|fail)only[go_sem,simprocAttr,xE,xN,xC,xP,xA,xZ,hbL])
  intro k hk
  by_cases h : k < r
  ·have hb:=hbr' k h
   have hg:=hNg k h
   have hl1 : (A ++ p.b ++ D.take k).length = A.length + r + k:=by rw [List.length_append,List.length_append,List.length_take,hbL]; omega
   have ht : A ++ p.b ++ D.take (k + 1) = A ++ p.b ++ D.take k ++ [-p.b.getD k 0]:=by rw [X2F (l:=D) (by omega),hg,← List.append_assoc]
   generalize A ++ p.b ++ D.take k = E at *
   have hNr : (2 * r + c) ≤ 34:=by omega
   simp -dsimp(disch:=first|exact om|fail)only[go_sem,simprocAttr,xE,xN,xC,xP,xA,xZ]
   refine ⟨hl1,k + 1,by omega,by omega, ?_⟩
   rw [ht]
   exact StI.ren [some 0,some 1,some 2,some 3,some 4,some 6] [[],[],[],[],[],[]] lE (by decide) (by simp -dsimp(disch:=first|exact om|fail)only[go_sem,simprocAttr,xE,xN,xC,xP,xA,xZ]; omega) lW
  ·obtain rfl : k = r:=by omega
   rw [show D.take k = D by rw [List.take_of_length_le (by omega)]]
   have hl1 : (A ++ p.b ++ D).length = A.length + k + k:=by rw [List.length_append,List.length_append,hbL]; omega
   generalize A ++ p.b ++ D = E at *
   simp -dsimp(disch:=first|exact om|fail)only[go_sem,simprocAttr,xE,xN,xC,xP,xA,xZ]
   refine apzI (l:=E) (n:=A.length + k + k) (m:=c) ?_ ?_ ?_ ?_
   ·rfl
   ·exact hl1
   ·omega
   simp -dsimp(disch:=first|exact om|fail)only[go_sem,simprocAttr,xE,xN,xC,xP,xA,xZ]
   have z1 : (List.replicate c (0 : Int)).length = c:=List.length_replicate
   have z2 : (E ++ List.replicate c 0).length = A.length + k + k + c:=by rw [List.length_append,hl1,z1]
   have z3 : (List.replicate c (0 : Int) ++ [-1]).length = c + 1:=by rw [List.length_append,z1]; rfl
   have z4 : (List.replicate (2 * k + c) (0 : Int)).length = 2 * k + c:=List.length_replicate
   refine ⟨z1, ?_⟩
   simp only [show zerosL c = List.replicate c 0 from rfl,show zerosL (2 * k + c) = List.replicate (2 * k + c) 0 from rfl]
   generalize E ++ List.replicate c 0 = X at *
   generalize List.replicate c (0 : Int) ++ [-1] = Y at *
   generalize List.replicate (2 * k + c) (0 : Int) = U at *
   rw [← z2,← z3,← z4]
   simp -dsimp(disch:=first|exact om|fail)only[go_sem,simprocAttr,xE,xN,xC,xP,xA,xZ,pC]
end Go.Proofs.YtchlpclgkhggeaaGreat