/- part of the proof -/
import Derived.Test.YtchlpclgkhggeaaGreatWUa
import Derived.Test.YtchlpclgkhggeaaGreatWWb
namespace Go.Proofs.YtchlpclgkhggeaaGreat
open Go Go.RowKit
set_option maxRecDepth 100000
set_option maxHeartbeats 4000000
set_option linter.unusedVariables false
set_option linter.unusedSimpArgs false
noncomputable def solP (p : Prg) : QD:=if okP' p = true then lpR p else ⟨1,[],RD.zero⟩
def freeQ (x : List FQ) (n : Nat) : Nat → FQ:=fun i=>(x.getD i FQ.bad).sub (x.getD (n + i) FQ.bad)
theorem Y7O (f : Fl) (hf : f ≠ .u) (x : List FQ) (n : Nat) (hn : 2 * n ≤ x.length) (hx : x.length ≤ 1000) : PC PP X1T [sR f (x.map qd),I n] (sR .s ((rowQ n (freeQ x n)).map qd)) []:=by
 refine tx X9p Q8I [] (by kernel_rfl) ?_
 have hl : (x.map qd).length = x.length:=List.length_map ..
 have hg : ∀ i,i < x.length → (x.map qd).getD i RD.zero = qd (x.getD i FQ.bad):=fun i hi=>Q6y (OM.mk hi)
 simp -dsimp(disch:=first|exact om|fail)only[go_sem,simprocAttr,xE,xN,xC,xP,xA,xZ]
 refine loopJ (fun i : Nat=>i ≤ n) (fun i=>⟨[(0,sR f (x.map qd)),(1,I n),(5,.rsl 0 3 0 i),(6,I i)],[rwO i (freeQ x n)]⟩) (fun i=>n - i) 0 (by omega) ?_ ?_
 ·refine StI.ren [none] [[]] lE (by decide) ?_ ?_
  ·simp -dsimp(disch:=first|exact om|fail)only[go_sem,simprocAttr,xE,xN,xC,xP,xA,xZ]
   rfl
  ·simp -dsimp(disch:=first|exact om|fail)only[go_sem,simprocAttr,xE,xN,xC,xP,xA,xZ]
 intro i hi
 by_cases h : i < n
 ·have g1:=hg i (by omega)
  have g2:=hg (n + i) (by omega)
  have q:=Y0u f f hf hf (qd (x.getD i FQ.bad)) (qd (x.getD (n + i) FQ.bad)) (Q4R _) (Q4R _)
  rw [Q6J,Q6J] at q
  have hpush:=Q3Y (c:=i) (g:=freeQ x n) (x:=(x.getD i FQ.bad).sub (x.getD (n + i) FQ.bad)) rfl
  generalize x.getD i FQ.bad = a at *
  generalize x.getD (n + i) FQ.bad = b at *
  generalize x.map qd = L at *
  have e1 : (n : Int) + (i : Int) = ((n + i : Nat) : Int):=by omega
  simp -dsimp(disch:=first|exact om|fail)only[go_sem,simprocAttr,xE,xN,xC,xP,xA,xZ,g1,g2,e1]
  refine callP q lL ?_
  simp -dsimp(disch:=first|exact om|fail)only[go_sem,simprocAttr,xE,xN,xC,xP,xA,xZ,hpush]
  exact ⟨i + 1,by omega,by omega,StI.ren [some 1] [[]] lE (by decide) lW lW⟩
 ·obtain rfl : n = i:=by omega
  have hl2 : ((rowQ n (freeQ x n)).map qd).length = n:=Q1S
  simp -dsimp(disch:=first|exact om|fail)only[go_sem,simprocAttr,xE,xN,xC,xP,xA,xZ]
end Go.Proofs.YtchlpclgkhggeaaGreat