/- part of the proof -/
import Derived.Test.YtchlpclgkhggeaaGreatWUi
import Derived.Test.YtchlpclgkhggeaaGreatWTp
namespace Go.Proofs.YtchlpclgkhggeaaGreat
open Go Go.RowKit
set_option maxRecDepth 100000
set_option maxHeartbeats 4000000
set_option linter.unusedVariables false
set_option linter.unusedSimpArgs false
abbrev reG (q : QD) : V:=.agg [I q.code,.rsl 0 3 0 q.x.length,Bo q.value.neg,.rsl 1 1 0 q.value.mag.length,.rsl 2 1 0 q.value.den.length]
abbrev reH (q : QD) : List Ob:=[⟨.own,Q0m,rsC .u q.x⟩,⟨.own,T_int,iC q.value.mag⟩,⟨.own,T_int,iC q.value.den⟩]
theorem Y6T {H : List Ob} {js : List (Option Nat)} {bk : Bool} {k n : Nat} {ty : TypeId} {l : List Int} (h : H[k]? = some ⟨.own,ty,iC l⟩) (hn : l.length = n) : Rn H js bk (.rsl k 1 0 n) (.sl .u 1 n (iC l)) [k]:=by
 have e : (iC l).take (n * 1) = iC l:=List.take_of_length_le (by rw [Q0W]; omega)
 refine Rn.cl js bk k 1 n ⟨.own,ty,iC l⟩ (iC l) [] h rfl (by show n * 1 ≤ _; rw [Q0W]; omega) ?_
 rw [e]
 exact RnL.lits
theorem Y6U {H : List Ob} {js : List (Option Nat)} {L : List RD} {r : RD} {a b : Nat} {t1 t2 : TypeId} (h1 : H[a]? = some ⟨.own,t1,iC r.mag⟩) (h2 : H[b]? = some ⟨.own,t2,iC r.den⟩) :
  RnL H js true (rsC .u L ++ [Bo r.neg,.rsl a 1 0 r.mag.length,.rsl b 1 0 r.den.length]) (rsC .u (L ++ [r])) [a,b]:=by
 rw [Q2O]
 refine RnL.app (k1:=[]) (of_eq_true Z1h) ?_
 exact .cons _ _ _ _ _ _ [] [a,b] (.same _ _ _ trivial (fun h=>by cases h)) (.cons _ _ _ _ _ _ [a] [b] (Y6T h1 rfl) (.cons _ _ _ _ _ _ [b] [] (Y6T h2 rfl) (.nil _ _)))
theorem Y3n {H : List Ob} {k : Int} : RtG 0 H (.agg [I k,.emp,Bo false,.emp,.emp]) (reG ⟨k,[],RD.zero⟩) (reH ⟨k,[],RD.zero⟩) :=
 RtG.ren [none,none,none] [[],[],[]] trivial (by decide) (by simp -dsimp(disch:=first|exact om|fail)only[go_sem,simprocAttr,xE,xN,xC,xP,xA,xZ]; simp [rsC,iC]) lW
def Q3a : List (Nat × (List Nat × List Nat × List Nat)):=[(10,[0,1,2,3,4,5,6,7,8],[],[999999,1000032])]
theorem Q1d : Txt PP Q1X Tryz.f10 Q3O Q3a:=⟨X0j,Tryz.func10,rfl,by kernel_rfl,by kernel_rfl⟩
attribute [go_sem] Q3a
theorem X2h (f : Fl) (hf : f ≠ .u) (p : Prg) (hp : p.small) : GC PP Q1X [pV f p] [] (reG (solP p)) (reH (solP p)):=by
 have q0:=Q7w f hf p hp
 cases ho : okP' p
 ·rw [ho] at q0
  rw [show solP p = ⟨1,[],RD.zero⟩ by unfold solP; rw [ho]; rfl]
  refine txg Q1d Q0O 0 [] [] [10] rfl (by kernel_rfl) ?_
  simp -dsimp(disch:=first|exact om|fail)only[go_sem,simprocAttr,xE,xN,xC,xP,xA,xZ,pC]
  refine callP q0 (by simp -dsimp(disch:=first|exact om|fail)only[go_sem,simprocAttr,xE,xN,xC,xP,xA,xZ,pC]) ?_
  simp -dsimp(disch:=first|exact om|fail)only[go_sem,simprocAttr,xE,xN,xC,xP,xA,xZ]
  exact Y3n
 ·rw [ho] at q0
  obtain ⟨r,c,hr,hc⟩ : ∃ r c : Nat,p.rows = r ∧ p.cols = c:=by
   obtain ⟨⟨r1,r2⟩,⟨c1,c2⟩,_⟩:=Q0F ho
   exact ⟨p.rows.toNat,p.cols.toNat,by omega,by omega⟩
  have hpd:=PD.mk' ho hr hc
  have h40:=hpd.c40
  rw [show solP p = lpR p from if_pos ho]
  rcases Y4p f hf p r c ho hr hc with ⟨X,hbest,hsz,⟨v1,v2⟩,q⟩ | ⟨hop,q⟩ | ⟨hno,q⟩
  ·have e : lpR p = ⟨0,(rowQ c fun j=>FQ.fit (X j)).map qd,qd (FQ.fit (p.lp.v X))⟩:=by
    unfold lpR
    rw [X3f hbest,hpd.n]; rfl
   rw [e]
   generalize hx : (fun j=>FQ.fit (X j)) = x at *
   generalize p.lp.v X = v at *
   refine txg Q1d Q0O 0 [] [] [10] rfl (by kernel_rfl) ?_
   simp -dsimp(disch:=first|exact om|fail)only[go_sem,simprocAttr,xE,xN,xC,xP,xA,xZ,pC]
   refine callP q0 (by simp -dsimp(disch:=first|exact om|fail)only[go_sem,simprocAttr,xE,xN,xC,xP,xA,xZ,pC]) ?_
   simp -dsimp(disch:=first|exact om|fail)only[go_sem,simprocAttr,xE,xN,xC,xP,xA,xZ]
   refine callP q (.cons _ _ _ _ (.ref 0 0 _ _ rfl (.inl rfl) (Q6t hf)) .nil) ?_
   simp -dsimp(disch:=first|exact om|fail)only[go_sem,simprocAttr,xE,xN,xC,xP,xA,xZ]
   refine callP (fit_c v (by omega) (by omega)) lL ?_
   simp -dsimp(disch:=first|exact om|fail)only[go_sem,simprocAttr,xE,xN,xC,xP,xA,xZ]
   refine callO' (Y3j .s fls (FQ.fit v)) lL lF ?_
   have hlx : ∀ k,k < c → (qs .s (rowQ c x)).drop k = pQ .s (x k) :: (qs .s (rowQ c x)).drop (k + 1):=fun k hk=>by
    rw [List.drop_eq_getElem_cons (by rw [Q8r,Q0r]; exact hk)]
    congr 1
    simp [qs,rowQ]
   have hxk : ∀ k,k < c → (rowQ c x).getD k FQ.bad = x k:=fun k hk=>X2M hk
   have hsk : ∀ k,k < c → ∃ r : Rat,pQ .s (x k) = pR .s r ∧ FQ.fit r = x k ∧ (lim r.num.natAbs).length ≤ 24 ∧ (lim r.den).length ≤ 24:=fun k _=>by
    refine ⟨X k, ?_,by rw [← hx],(hsz k).fits (by omega)⟩
    rw [← hx]; exact X7w (hsz k) (by omega)
   have hxl : (rowQ c x).length = c:=Q0r
   have hpush : ∀ k,(rowQ k x).map qd ++ [qd (x k)] = (rowQ (k + 1) x).map qd:=fun k=>by
    unfold rowQ; rw [List.range_succ,List.map_append,List.map_append]; rfl
   simp -dsimp(disch:=first|exact om|fail)only[go_sem,simprocAttr,xE,xN,xC,xP,xA,xZ]
   refine loopJ (fun k : Nat=>k ≤ c) (fun k=>⟨[(2,.ref 0 0),(6,.ref 1 0),(26,.sl .s 1 c (qs .s (rowQ c x))),(27,I c),(28,I k)],[⟨.own,Q1p,[I 0,.emp,Bo false,.emp,.emp]⟩,⟨.own,Q1p,[I 0,.rsl 2 3 0 k,Bo (qd (FQ.fit v)).neg,.rsl 3 1 0 (qd (FQ.fit v)).mag.length,.rsl 4 1 0 (qd (FQ.fit v)).den.length]⟩,⟨.own,Q0m,rsC .u ((rowQ k x).map qd)⟩,⟨.own,T_int,iC (qd (FQ.fit v)).mag⟩,⟨.own,T_int,iC (qd (FQ.fit v)).den⟩]⟩) (fun k=>c - k) 0 (by omega) ?_ ?_
   ·refine StI.ren [some 1,some 4,none,some 2,some 3] [[],[],[],[],[]] lE (by decide) ?_ lW
    simp -dsimp(disch:=first|exact om|fail)only[go_sem,simprocAttr,xE,xN,xC,xP,xA,xZ]
    rfl
   intro k hk
   by_cases hkc : k < c
   ·obtain ⟨s,hs1,hs2,hs3,hs4⟩:=hsk k hkc
    have hxk:=hxk k hkc
    have hpush:=hpush k
    simp -dsimp(disch:=first|exact om|fail)only[go_sem,simprocAttr,xE,xN,xC,xP,xA,xZ,hxl,hxk,hs1]
    refine mtL ?_
    simp -dsimp(disch:=first|exact om|fail)only[go_sem,simprocAttr,xE,xN,xC,xP,xA,xZ]
    refine callP (fit_c s (by omega) (by omega)) lL ?_
    rw [hs2]
    simp -dsimp(disch:=first|exact om|fail)only[go_sem,simprocAttr,xE,xN,xC,xP,xA,xZ]
    refine mtL ?_
    simp -dsimp(disch:=first|exact om|fail)only[go_sem,simprocAttr,xE,xN,xC,xP,xA,xZ]
    refine callO' (Y3j .s fls (x k)) lL lF ?_
    simp -dsimp(disch:=first|exact om|fail)only[go_sem,simprocAttr,xE,xN,xC,xP,xA,xZ]
    refine mtBsl [] (by simp -dsimp(disch:=first|exact om|fail)only[go_sem,simprocAttr,xE,xN,xC,xP,xA,xZ]; exact ⟨rfl,rfl⟩) (hkp0 lW) lW ?_
    simp -dsimp(disch:=first|exact om|fail)only[go_sem,simprocAttr,xE,xN,xC,xP,xA,xZ]
    refine mtApp [2,7] (by simp -dsimp(disch:=first|exact om|fail)only[go_sem,simprocAttr,xE,xN,xC,xP,xA,xZ]; exact ⟨rfl,rfl⟩) (hkp0 lW) lW ?_
    simp -dsimp(disch:=first|exact om|fail)only[go_sem,simprocAttr,xE,xN,xC,xP,xA,xZ]
    refine ⟨k + 1,by omega,by omega,StI.ren [some 0,some 1,some 8,some 3,some 4] [[],[],[5,6],[],[]] lE (by decide) ?_ lW⟩
    simp -dsimp(disch:=first|exact om|fail)only[go_sem,simprocAttr,xE,xN,xC,xP,xA,xZ]
    rw [← hpush]
    exact Y6U rfl rfl
   ·obtain rfl : k = c:=by omega
    simp -dsimp(disch:=first|exact om|fail)only[go_sem,simprocAttr,xE,xN,xC,xP,xA,xZ]
    exact RtG.ren [some 2,some 3,some 4] [[],[],[]] lE (by decide) lW lW
  ·have e : lpR p = ⟨3,[],RD.zero⟩:=by
    unfold lpR
    rw [X7E hop,show qd FQ.bad = RD.zero from Q4S]; rfl
   rw [e]
   refine txg Q1d Q0O 0 [] [] [10] rfl (by kernel_rfl) ?_
   simp -dsimp(disch:=first|exact om|fail)only[go_sem,simprocAttr,xE,xN,xC,xP,xA,xZ,pC]
   refine callP q0 (by simp -dsimp(disch:=first|exact om|fail)only[go_sem,simprocAttr,xE,xN,xC,xP,xA,xZ,pC]) ?_
   simp -dsimp(disch:=first|exact om|fail)only[go_sem,simprocAttr,xE,xN,xC,xP,xA,xZ]
   refine callP q (.cons _ _ _ _ (.ref 0 0 _ _ rfl (.inl rfl) (Q6t hf)) .nil) ?_
   simp -dsimp(disch:=first|exact om|fail)only[go_sem,simprocAttr,xE,xN,xC,xP,xA,xZ]
   exact Y3n
  ·have e : lpR p = ⟨2,[],RD.zero⟩:=by
    unfold lpR
    rw [X3e hno,show qd FQ.bad = RD.zero from Q4S]; rfl
   rw [e]
   refine txg Q1d Q0O 0 [] [] [10] rfl (by kernel_rfl) ?_
   simp -dsimp(disch:=first|exact om|fail)only[go_sem,simprocAttr,xE,xN,xC,xP,xA,xZ,pC]
   refine callP q0 (by simp -dsimp(disch:=first|exact om|fail)only[go_sem,simprocAttr,xE,xN,xC,xP,xA,xZ,pC]) ?_
   simp -dsimp(disch:=first|exact om|fail)only[go_sem,simprocAttr,xE,xN,xC,xP,xA,xZ]
   refine callP q (.cons _ _ _ _ (.ref 0 0 _ _ rfl (.inl rfl) (Q6t hf)) .nil) ?_
   simp -dsimp(disch:=first|exact om|fail)only[go_sem,simprocAttr,xE,xN,xC,xP,xA,xZ]
   exact Y3n
end Go.Proofs.YtchlpclgkhggeaaGreat