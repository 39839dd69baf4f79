/- part of the proof -/
import Derived.Test.YtchlpclgkhggeaaGreatVTp
namespace Go.Proofs.YtchlpclgkhggeaaGreat
open Go Go.RowKit
set_option maxRecDepth 100000
set_option maxHeartbeats 4000000
set_option linter.unusedVariables false
set_option linter.unusedSimpArgs false
def negW (l : List Int) : List Int:=l.map fun n=>IntKind.wrap .i64 (-n)
theorem Q1K {l : List Int} : (negW l).length = l.length:=by simp [negW]
theorem Y1i {l : List Int} {k : Nat} (h : k < l.length) : (negW l).take (k + 1) = (negW l).take k ++ [IntKind.wrap .i64 (-l.getD k 0)]:=by
 rw [Y5d (by rw [Q1K]; exact h)]
 congr 2
 unfold negW
 rw [List.getD_eq_getElem?_getD,List.getElem?_map,List.getElem?_eq_getElem h,List.getD_eq_getElem?_getD,List.getElem?_eq_getElem h]; rfl
def leastP (p : Prg) : Prg:=⟨p.rows,p.cols,p.a,p.b,negW p.c⟩
noncomputable def leastQ (q : QD) : QD:=if q.code = 0 then ⟨q.code,q.x,qd (rdq q.value).neg⟩ else q
theorem X9q (p : Prg) : ∃ v,(solP p).value = qd v:=by
 unfold solP
 split
 ·exact ⟨_,rfl⟩
 ·exact ⟨FQ.bad,Q5f.symm⟩
theorem X7L (f : Fl) (hf : f ≠ .u) (p : Prg) (hp : p.small) : PC PP Q5b [pV f p] (reV .s (leastQ (solP (leastP p)))) []:=by
 obtain ⟨h1,h2,h3⟩:=hp
 have q1:=X1o .b flb (leastP p) ⟨h1,h2,by show (negW p.c).length ≤ _; rw [Q1K]; exact h3⟩
 obtain ⟨v,hv⟩:=X9q (leastP p)
 have hW:=fun k (h : k < p.c.length)=>Y1i h
 have hWl : (negW p.c).length = p.c.length:=Q1K
 simp only [pV,pC,leastP] at q1
 have e0 : solP ⟨p.rows,p.cols,p.a,p.b,negW p.c⟩ = solP (leastP p):=rfl
 rw [e0] at q1
 generalize solP (leastP p) = S at *
 obtain ⟨code,x,val⟩:=S
 simp only at hv
 subst hv
 generalize negW p.c = W at *
 refine tx X8s Q8f [] (by kernel_rfl) ?_
 simp -dsimp(disch:=first|exact om|fail)only[go_sem,simprocAttr,xE,xN,xC,xP,xA,xZ,pC]
 refine loopJ (fun k : Nat=>k ≤ p.c.length) (fun k=>⟨[(1,.ref 0 0),(2,.ref 1 0),(3,.ref 2 0),(17,sI f p.c),(18,I p.c.length),(19,I k)],[⟨.own,Q0F,[I p.rows,I p.cols,sI f p.a,sI f p.b,sI f p.c]⟩,⟨.own,Q0D,[I 0,.emp,Bo false,.emp,.emp]⟩,⟨.own,Q0F,[I p.rows,I p.cols,sI f p.a,sI f p.b,.rsl 3 1 0 k]⟩,⟨.own,T_int,iC (W.take k)⟩]⟩) (fun k=>p.c.length - k) 0 (by omega) ?_ ?_
 ·refine StI.ren [some 0,some 1,some 2,none] [[],[],[],[]] lE (by decide) ?_ lW
  simp -dsimp(disch:=first|exact om|fail)only[go_sem,simprocAttr,xE,xN,xC,xP,xA,xZ]
  rfl
 intro k hk
 by_cases h : k < p.c.length
 ·have hw:=hW k h
  have hlt : (W.take k).length = k:=by rw [List.length_take]; omega
  simp -dsimp(disch:=first|exact om|fail)only[go_sem,simprocAttr,xE,xN,xC,xP,xA,xZ]
  refine ⟨k + 1,by omega,by omega,StI.ren [some 0,some 1,some 2,some 4] [[],[],[],[]] lE (by decide) ?_ lW⟩
  rw [hw]
  simp -dsimp(disch:=first|exact om|fail)only[go_sem,simprocAttr,xE,xN,xC,xP,xA,xZ]
 ·obtain rfl : k = p.c.length:=by omega
  rw [show W.take p.c.length = W by rw [← hWl,List.take_length]]
  simp only [reV,reC] at q1 ⊢
  simp -dsimp(disch:=first|exact om|fail)only[go_sem,simprocAttr,xE,xN,xC,xP,xA,xZ]
  refine callP q1 ?_ ?_
  ·have hle : Le [⟨.own,Q0F,[I p.rows,I p.cols,sI f p.a,sI f p.b,sI f p.c]⟩,⟨.own,Q0D,[I 0,.emp,Bo false,.emp,.emp]⟩,⟨.own,Q0F,[I p.rows,I p.cols,sI f p.a,sI f p.b,.rsl 3 1 0 p.c.length]⟩,⟨.own,T_int,iC W⟩] .b (.rsl 3 1 0 p.c.length) (sI .b W):=by
    rw [← hWl]
    have:=Le.rsl (H:=[⟨.own,Q0F,[I p.rows,I p.cols,sI f p.a,sI f p.b,sI f p.c]⟩,⟨.own,Q0D,[I 0,.emp,Bo false,.emp,.emp]⟩,⟨.own,Q0F,[I p.rows,I p.cols,sI f p.a,sI f p.b,.rsl 3 1 0 W.length]⟩,⟨.own,T_int,iC W⟩]) (f:=.b) 3 1 0 W.length ⟨.own,T_int,iC W⟩ (iC W) rfl (.inl rfl) (by simp [Q0M]) (by
     simp only [Nat.zero_mul,List.drop_zero]
     rw [List.take_of_length_le (by simp [Q0M])]
     exact LeL.lits)
    exact this
   refine .cons _ _ _ _ (.agg _ _ (.cons _ _ _ _ (.lit _) (.cons _ _ _ _ (.lit _) (.cons _ _ _ _ ?_ (.cons _ _ _ _ ?_ (.cons _ _ _ _ hle .nil)))))) .nil
   ·simp -dsimp(disch:=first|exact om|fail)only[go_sem,simprocAttr,xE,xN,xC,xP,xA,xZ]
   ·simp -dsimp(disch:=first|exact om|fail)only[go_sem,simprocAttr,xE,xN,xC,xP,xA,xZ]
  by_cases e : code = 0
  ·rw [show leastQ ⟨code,x,qd v⟩ = ⟨code,x,qd v.neg⟩ by unfold leastQ; rw [if_pos e,X1Z]]
   simp -dsimp(disch:=first|exact om|fail)only[go_sem,simprocAttr,xE,xN,xC,xP,xA,xZ,e]
   refine callP (X9L .s fls v) lL ?_
   simp -dsimp(disch:=first|exact om|fail)only[go_sem,simprocAttr,xE,xN,xC,xP,xA,xZ]
  ·rw [show leastQ ⟨code,x,qd v⟩ = ⟨code,x,qd v⟩ by unfold leastQ; rw [if_neg e]]
   simp -dsimp(disch:=first|exact om|fail)only[go_sem,simprocAttr,xE,xN,xC,xP,xA,xZ,e]
end Go.Proofs.YtchlpclgkhggeaaGreat