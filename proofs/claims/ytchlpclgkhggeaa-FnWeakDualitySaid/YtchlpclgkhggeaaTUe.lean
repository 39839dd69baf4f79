/- part of the proof -/
import Derived.Test.YtchlpclgkhggeaaTUp
import Derived.Test.YtchlpclgkhggeaaTUa
namespace Go.Proofs.Ytchlpclgkhggeaa
open Go Go.RowKit
set_option maxRecDepth 100000
set_option maxHeartbeats 4000000
set_option linter.unusedVariables false
set_option linter.unusedSimpArgs false
def aF (l : List Int) (n : Nat) (c : CS) (i j : Nat) : Int:=(c.adv l (i * n + j)).to l 9 - 3
def aG (l : List Int) (n : Nat) (c : CS) : Nat → List Int
 | 0=>[]
 | i + 1=>aG l n c i ++ oL n (aF l n c i)
def feaP (l : List Int) (c : CS) : Prg:=⟨dR l c,dN l c,aG l (dN l c) (c.adv l (2 + 2 * dN l c)) (dR l c),oL (dR l c) (fun i=>smZ (dN l c) fun j=>aF l (dN l c) (c.adv l (2 + 2 * dN l c)) i j * xD l c j),oL (dN l c) (cD l c)⟩
def feaX (l : List Int) (c : CS) : List FQ:=rowQ (dN l c) fun j=>FQ.ofInt (xD l c j)
def Q2X : List (Nat × (List Nat × List Nat × List Nat)):=[(10,[0,1,2,3,4,5,6,7,8],[],[999999,1000043])]
theorem Q9j : Txt PP Q1Q Try.f23 Q3G Q2X:=⟨Q9a,Try.func23,rfl,by kernel_rfl,by kernel_rfl⟩
attribute [go_sem] Q2X
theorem X5F (l : List Int) (hl : l.length ≤ 1048576) :
  GC PP Q1Q [byV .s l] [] (.tup [pO (feaP l (CS.new l)),.rsl 3 3 0 (dN l (CS.new l))]) (pH (feaP l (CS.new l)) ++ [rwO (dN l (CS.new l)) fun j=>FQ.ofInt (xD l (CS.new l) j)]):=by
 have q0:=Y4J l hl
 have hc:=CS.new_ok l
 have e3 : (feaP l (CS.new l)).b.length = dR l (CS.new l):=Q1I
 have e4 : (feaP l (CS.new l)).c.length = dN l (CS.new l):=Q1I
 have ea : (feaP l (CS.new l)).a = aG l (dN l (CS.new l)) ((CS.new l).adv l (2 + 2 * dN l (CS.new l))) (dR l (CS.new l)):=rfl
 have eb : (feaP l (CS.new l)).b = oL (dR l (CS.new l)) (fun i=>smZ (dN l (CS.new l)) fun j=>aF l (dN l (CS.new l)) ((CS.new l).adv l (2 + 2 * dN l (CS.new l))) i j * xD l (CS.new l) j):=rfl
 have ec : (feaP l (CS.new l)).c = oL (dN l (CS.new l)) (cD l (CS.new l)):=rfl
 have er : (feaP l (CS.new l)).rows = dR l (CS.new l):=rfl
 have en : (feaP l (CS.new l)).cols = dN l (CS.new l):=rfl
 simp only [pO,pH,er,en,e3,e4,ea,eb,ec]
 clear e3 e4 ea eb ec er en
 generalize CS.new l = c at *
 have t1:=CS.to_le (l:=l) (c:=c) (n:=3) (by omega)
 have t2:=CS.to_le (l:=l) (c:=c.nx l) (n:=4) (by omega)
 have q1:=Q5M l c hl hc 3 (by omega)
 have q2:=Q5M l (c.nx l) hl hc.nx 4 (by omega)
 have eR : 1 + c.to l 3 = ((dR l c : Nat) : Int):=by unfold dR; omega
 have eN : 2 + (c.nx l).to l 4 = ((dN l c : Nat) : Int):=by unfold dN; omega
 have hR : dR l c ≤ 3:=by omega
 have hN : dN l c ≤ 5:=by omega
 have hx : ∀ j,xD l c j = (c.adv l (2 + 2 * j)).to l 4:=fun j=>rfl
 have hcd : ∀ j,cD l c j = (c.adv l (2 + 2 * j + 1)).to l 9 - 4:=fun j=>rfl
 have hxr : ∀ j,0 ≤ xD l c j ∧ xD l c j < 4:=fun j=>CS.to_le (by omega)
 generalize xD l c = x at *
 generalize cD l c = cc at *
 generalize dR l c = R at *
 generalize dN l c = n at *
 generalize e1 : c.to l 3 = t at *
 generalize e2 : (c.nx l).to l 4 = t' at *
 obtain ⟨X,hX⟩ : ∃ X : Nat → FQ,X = fun j=>FQ.ofInt (x j):=⟨_,rfl⟩
 have hXj : ∀ j,X j = FQ.ofInt (x j):=fun j=>by rw [hX]
 rw [← hX]
 clear hX
 refine txg Q9j Q3z 0 [] [] [2,8,10,18,19,21] rfl (by kernel_rfl) ?_
 simp -dsimp(disch:=first|exact om|fail)only[go_sem,simprocAttr,xE,xN,xC,xP,xA,xZ]
 refine callO' q0 lL lF ?_
 simp -dsimp(disch:=first|exact om|fail)only[go_sem,simprocAttr,xE,xN,xC,xP,xA,xZ]
 refine callG' [1] q1 (by decide) lL lL lE lF ?_
 simp -dsimp(disch:=first|exact om|fail)only[go_sem,simprocAttr,xE,xN,xC,xP,xA,xZ,eR]
 refine callG' [1] q2 (by decide) lL lL lE lF ?_
 simp -dsimp(disch:=first|exact om|fail)only[go_sem,simprocAttr,xE,xN,xC,xP,xA,xZ,eR,eN]
 refine loopJ (fun j : Nat=>j ≤ n) (fun j=>⟨[(2,.ref 0 0),(4,.ref 1 0),(5,.ref 2 0),(6,.rsl 3 3 0 j),(7,.rsl 4 1 0 j),(8,I j)],[zP,curS l (c.adv l (2 + 2 * j)),⟨.own,Q0c,[I R,I n,.emp,.emp,.rsl 5 1 0 j]⟩,rwO j X,⟨.own,T_int,iC (oL j x)⟩,⟨.own,T_int,iC (oL j cc)⟩]⟩) (fun j=>n - j) 0 (by omega) ?_ ?_
 ·rw [show c.adv l (2 + 2 * 0) = (c.nx l).nx l from rfl]
  refine StI.ren [some 0,some 1,some 4,none,none,none] [[],[],[],[],[],[]] lE (by decide) ?_ lW
  simp -dsimp(disch:=first|exact om|fail)only[go_sem,simprocAttr,xE,xN,xC,xP,xA,xZ]
  exact ⟨rfl,rfl,rfl⟩
 intro j hj
 by_cases hjn : j < n
 ·have hok : (c.adv l (2 + 2 * j)).Ok l:=hc.adv
  have hn2 : c.adv l (2 + 2 * (j + 1)) = ((c.adv l (2 + 2 * j)).nx l).nx l:=rfl
  have hx:=hx j
  have hcd:=hcd j
  have hxr:=hxr j
  have hXj:=hXj j
  rw [CS.adv_s] at hcd
  have hx1 : iC (oL j x) ++ [I (x j)] = iC (oL (j + 1) x):=by rw [X4g]; simp [iC]
  have hx2 : oL j x ++ [x j] = oL (j + 1) x:=X4g.symm
  have hxg : (oL (j + 1) x).getD j 0 = x j:=X7L (by omega)
  have hc2 : oL j cc ++ [cc j] = oL (j + 1) cc:=X4g.symm
  have hpush:=Y4p (c:=j) (g:=X) (x:=FQ.ofInt (x j)) hXj
  generalize c.adv l (2 + 2 * j) = d at *
  have p1:=Q5M l d hl hok 4 (by omega)
  have p2:=Q5M l (d.nx l) hl hok.nx 9 (by omega)
  have p2r:=CS.to_le (l:=l) (c:=d.nx l) (n:=9) (by omega)
  rw [← hx] at p1
  generalize (d.nx l).to l 9 = y at *
  have hcd' : y - 4 = cc j:=hcd.symm
  simp -dsimp(disch:=first|exact om|fail)only[go_sem,simprocAttr,xE,xN,xC,xP,xA,xZ]
  refine callG' [1] p1 (by decide) lL lL lE lF ?_
  simp -dsimp(disch:=first|exact om|fail)only[go_sem,simprocAttr,xE,xN,xC,xP,xA,xZ,hx1,hx2,hxg]
  refine callP (X2a (x j) (by omega)) lL ?_
  simp -dsimp(disch:=first|exact om|fail)only[go_sem,simprocAttr,xE,xN,xC,xP,xA,xZ,hpush]
  refine callGL [1] p2 rfl (by decide) lW lW lE lF lW ?_
  simp -dsimp(disch:=first|exact om|fail)only[go_sem,simprocAttr,xE,xN,xC,xP,xA,xZ,hcd',hx1,hx2]
  refine mtBsl [] (by simp -dsimp(disch:=first|exact om|fail)only[go_sem,simprocAttr,xE,xN,xC,xP,xA,xZ]; exact ⟨rfl,rfl⟩) (hkp0 lW) lW ?_
  simp -dsimp(disch:=first|exact om|fail)only[go_sem,simprocAttr,xE,xN,xC,xP,xA,xZ]
  refine mtApp [5,11] (by simp -dsimp(disch:=first|exact om|fail)only[go_sem,simprocAttr,xE,xN,xC,xP,xA,xZ]; exact ⟨rfl,rfl⟩) (hkp0 lW) lW ?_
  simp -dsimp(disch:=first|exact om|fail)only[go_sem,simprocAttr,xE,xN,xC,xP,xA,xZ,hc2]
  refine ⟨j + 1,by omega,by omega, ?_⟩
  rw [hn2]
  refine StI.ren [some 0,some 1,some 2,some 9,some 8,some 12] [[],[],[],[],[],[]] lE (by decide) ?_ lW
  simp -dsimp(disch:=first|exact om|fail)only[go_sem,simprocAttr,xE,xN,xC,xP,xA,xZ,hc2,hpush]
 ·obtain rfl : n = j:=by omega
  clear hx hcd
  have hok3 : (c.adv l (2 + 2 * n)).Ok l:=hc.adv
  generalize c.adv l (2 + 2 * n) = c3 at *
  obtain ⟨A,hA⟩ : ∃ A : Nat → List Int,A = aG l n c3:=⟨_,rfl⟩
  have hAs : ∀ i,A (i + 1) = A i ++ oL n (aF l n c3 i):=fun i=>by rw [hA]; rfl
  have hA0 : A 0 = []:=by rw [hA]; rfl
  have hAl : ∀ i,(A i).length = i * n:=fun i=>by
   induction i with
   | zero=>rw [hA0]; simp
   | succ i ih=>rw [hAs,List.length_append,ih,Q1I,Nat.succ_mul]
  obtain ⟨B,hB⟩ : ∃ B : Nat → Int,B = fun i=>smZ n fun j=>aF l n c3 i j * x j:=⟨_,rfl⟩
  have hBi : ∀ i,B i = smZ n fun j=>aF l n c3 i j * x j:=fun i=>by rw [hB]
  have hAR:=hAl R
  rw [← hA,← hB]
  clear hA hB
  have hxa : ∀ j,j < n → (oL n x).getD j 0 = x j:=fun j hj=>X7L hj
  simp -dsimp(disch:=first|exact om|fail)only[go_sem,simprocAttr,xE,xN,xC,xP,xA,xZ]
  refine loopJ (fun i : Nat=>i ≤ R) (fun i=>⟨[(2,.ref 0 0),(4,.ref 1 0),(5,.ref 2 0),(6,.rsl 3 3 0 n),(7,.rsl 4 1 0 n),(9,I i)],[zP,curS l (c3.adv l (i * n)),⟨.own,Q0c,[I R,I n,.rsl 5 1 0 (i * n),.rsl 6 1 0 i,.rsl 7 1 0 n]⟩,rwO n X,⟨.own,T_int,iC (oL n x)⟩,⟨.own,T_int,iC (A i)⟩,⟨.own,T_int,iC (oL i B)⟩,⟨.own,T_int,iC (oL n cc)⟩]⟩) (fun i=>R - i) 0 (by omega) ?_ ?_
  ·rw [hA0,Nat.zero_mul,show c3.adv l 0 = c3 from rfl]
   refine StI.ren [some 0,some 1,some 2,some 3,some 4,none,none,some 5] [[],[],[],[],[],[],[],[]] lE (by decide) ?_ lW
   simp -dsimp(disch:=first|exact om|fail)only[go_sem,simprocAttr,xE,xN,xC,xP,xA,xZ]
   exact ⟨rfl,rfl⟩
  intro i hi
  by_cases hiR : i < R
  ·have hAs:=hAs i
   have hAl:=hAl i
   have hBi:=hBi i
   have hok8 : ∀ j,(c3.adv l (i * n + j)).Ok l:=fun j=>hok3.adv
   have hAr : ∀ j,aF l n c3 i j = (c3.adv l (i * n + j)).to l 9 - 3:=fun j=>rfl
   have hArr : ∀ j,-3 ≤ aF l n c3 i j ∧ aF l n c3 i j ≤ 5:=fun j=>by
    have:=CS.to_le (l:=l) (c:=c3.adv l (i * n + j)) (n:=9) (by omega)
    rw [hAr]; omega
   have hend : c3.adv l ((i + 1) * n) = c3.adv l (i * n + n):=by rw [Nat.succ_mul]
   have hin : i * n ≤ 2 * 5:=Nat.mul_le_mul (by omega) (by omega)
   generalize aF l n c3 i = a at *
   obtain ⟨S,hS⟩ : ∃ S : Nat → Int,S = fun j=>smZ j (fun k=>a k * x k):=⟨_,rfl⟩
   have hS0 : S 0 = 0:=by rw [hS]; rfl
   have hSs : ∀ j,S (j + 1) = S j + a j * x j:=fun j=>by rw [hS]; rfl
   have hSr : ∀ j,j ≤ n → -75 ≤ S j ∧ S j ≤ 75:=fun j hj=>by
    rw [hS]
    have:=X8E (n:=j) (B:=15) (f:=fun k=>a k * x k) (fun k _=>by
     have h1:=hArr k
     have h2:=hxr k
     have h3 : x k = 0 ∨ x k = 1 ∨ x k = 2 ∨ x k = 3:=by omega
     rcases h3 with h3 | h3 | h3 | h3 <;> rw [h3] <;> omega)
    have hj5 : (j : Int) ≤ 5:=by omega
    have : (j : Int) * 15 ≤ 75:=by omega
    show -75 ≤ smZ j _ ∧ smZ j _ ≤ 75
    omega
   have hSn : smZ n (fun j=>a j * x j) = S n:=by rw [hS]
   rw [hSn] at hBi
   clear hS
   simp -dsimp(disch:=first|exact om|fail)only[go_sem,simprocAttr,xE,xN,xC,xP,xA,xZ]
   refine loopJ (fun j : Nat=>j ≤ n) (fun j=>⟨[(2,.ref 0 0),(4,.ref 1 0),(5,.ref 2 0),(6,.rsl 3 3 0 n),(7,.rsl 4 1 0 n),(9,I i),(10,I (S j)),(11,I j)],[zP,curS l (c3.adv l (i * n + j)),⟨.own,Q0c,[I R,I n,.rsl 5 1 0 (i * n + j),.rsl 6 1 0 i,.rsl 7 1 0 n]⟩,rwO n X,⟨.own,T_int,iC (oL n x)⟩,⟨.own,T_int,iC (A i ++ oL j a)⟩,⟨.own,T_int,iC (oL i B)⟩,⟨.own,T_int,iC (oL n cc)⟩]⟩) (fun j=>n - j) 0 (by omega) ?_ ?_
   ·rw [hS0,show oL 0 a = [] from rfl,List.append_nil,Nat.add_zero]
    exact StI.ren [some 0,some 1,some 2,some 3,some 4,some 5,some 6,some 7] [[],[],[],[],[],[],[],[]] lE (by decide) lW lW
   intro j hj
   by_cases hjn : j < n
   ·have hAr:=hAr j
    have hArr:=hArr j
    have hSs:=hSs j
    have hSr1:=hSr j hj
    have hSr2:=hSr (j + 1) hjn
    have hxr:=hxr j
    have hokd:=hok8 j
    have hnx : c3.adv l (i * n + (j + 1)) = (c3.adv l (i * n + j)).nx l:=rfl
    have hpu : A i ++ oL j a ++ [a j] = A i ++ oL (j + 1) a:=by rw [X4g,List.append_assoc]
    have hAj : (A i ++ oL j a).length = i * n + j:=by rw [List.length_append,hAl,Q1I]
    have hxa:=hxa j hjn
    generalize c3.adv l (i * n + j) = d at *
    have p1:=Q5M l d hl hokd 9 (by omega)
    have p1r:=CS.to_le (l:=l) (c:=d) (n:=9) (by omega)
    generalize d.to l 9 = y at *
    generalize a j = aj at *
    simp -dsimp(disch:=first|exact om|fail)only[go_sem,simprocAttr,xE,xN,xC,xP,xA,xZ]
    refine callG' [1] p1 (by decide) lL lL lE lF ?_
    simp -dsimp(disch:=first|exact om|fail)only[go_sem,simprocAttr,xE,xN,xC,xP,xA,xZ,hAj,hpu,hxa,hSs.symm,hAr.symm]
    refine ⟨j + 1,by omega,by omega, ?_⟩
    rw [hnx]
    exact StI.ren [some 0,some 1,some 2,some 3,some 4,some 10,some 6,some 7] [[],[],[],[],[],[],[],[]] lE (by decide) (by simp -dsimp(disch:=first|exact om|fail)only[go_sem,simprocAttr,xE,xN,xC,xP,xA,xZ,Nat.add_assoc]) lW
   ·obtain rfl : n = j:=by omega
    have e1 : i * n + n = (i + 1) * n:=by rw [Nat.succ_mul]
    have hin : (i + 1) * n ≤ 3 * 5:=Nat.mul_le_mul (by omega) (by omega)
    have hSr:=hSr n (Nat.le_refl _)
    have hBp : oL i B ++ [B i] = oL (i + 1) B:=X4g.symm
    rw [← hAs,e1]
    rw [hBi] at hBp
    simp -dsimp(disch:=first|exact om|fail)only[go_sem,simprocAttr,xE,xN,xC,xP,xA,xZ,hBp]
    refine ⟨i + 1,by omega,by omega, ?_⟩
    exact StI.ren [some 0,some 1,some 2,some 3,some 4,some 5,some 9,some 7] [[],[],[],[],[],[],[],[]] lE (by decide) lW lW
  ·obtain rfl : R = i:=by omega
   rw [hAR]
   simp -dsimp(disch:=first|exact om|fail)only[go_sem,simprocAttr,xE,xN,xC,xP,xA,xZ]
   exact RtG.nothing [some 5,some 6,some 7,some 3] lE (by decide) (by simp -dsimp(disch:=first|exact om|fail)only[go_sem,simprocAttr,xE,xN,xC,xP,xA,xZ,List.map_cons,List.map_nil]) lW
theorem rslR0 {H : List Ob} {js : List (Option Nat)} {bk : Bool} {id n : Nat} {ty : TypeId} {l : List RD} (h : H[id]? = some ⟨.frz,ty,rsC .s l⟩) (hn : l.length = n) : Rn H js bk (.rsl id 3 0 n) (sR .s l) []:=by
 subst hn
 have q:=Rn.rslz (H:=H) js bk id 3 0 l.length ⟨.frz,ty,rsC .s l⟩ h rfl (by show 0 * 3 + l.length * 3 ≤ (rsC .s l).length; rw [Q0W]; omega) (by
  simp only [Nat.zero_mul,List.drop_zero]
  rw [List.take_of_length_le (by rw [Q0W]; exact Nat.le_refl _)]
  intro c hc
  exact Y3B c hc)
 simp only [Nat.zero_mul,List.drop_zero] at q
 rw [List.take_of_length_le (by rw [Q0W]; exact Nat.le_refl _)] at q
 exact q
theorem Y6E {H : List Ob} {l : List RD} : LeL H .s (rsC .s l) (rsC .s l):=X6C fun m=>.sl _ _ _ _ _ _ (show FlLe .s .s .s from Or.inl rfl) LeL.lits
theorem Y4x (p : Prg) (L : List RD) (n : Nat) (hL : L.length = n) : RtG 0 (pH p ++ [⟨.own,Q1k,rsC .s L⟩]) (.tup [pO p,.rsl 3 3 0 n]) (.tup [pV .s p,sR .s L]) []:=by
 refine RtG.share 0 (cs':=iC p.a) rfl lW LeL.lits lW (RtG.share 1 (cs':=iC p.b) rfl lW LeL.lits lW (RtG.share 2 (cs':=iC p.c) rfl lW LeL.lits lW (RtG.share 3 (cs':=rsC .s L) rfl lW Y6E lW ?_)))
 exact RtG.nothing [] trivial (by decide) lW (.tup _ _ _ _ _ (.cons _ _ _ _ _ _ [] [] (.agg _ _ _ _ _ (.cons _ _ _ _ _ _ [] [] (.same _ _ _ trivial (fun _=>trivial)) (.cons _ _ _ _ _ _ [] [] (.same _ _ _ trivial (fun _=>trivial)) (.cons _ _ _ _ _ _ [] [] (rslI0 rfl rfl) (.cons _ _ _ _ _ _ [] [] (rslI0 rfl rfl) (.cons _ _ _ _ _ _ [] [] (rslI0 rfl rfl) (.nil _ _))))))) (.cons _ _ _ _ _ _ [] [] (rslR0 rfl hL) (.nil _ _))))
theorem X5E (l : List Int) (hl : l.length ≤ 1048576) : PC PP Q1Q [byV .s l] (.tup [pV .s (feaP l (CS.new l)),sR .s ((feaX l (CS.new l)).map qd)]) [] :=
 ((X5F l hl).conv (Y4x _ _ _ (by rw [List.length_map,Q0f]))).pc
theorem aG_in (l : List Int) (n : Nat) (c : CS) : ∀ i,inB (-100) 100 (aG l n c i) = true ∧ (aG l n c i).length = i * n ∧ ∀ a j,a < i → j < n → (aG l n c i).getD (a * n + j) 0 = aF l n c a j
 | 0=>⟨rfl,by show 0 = 0 * n; omega,fun a j h=>by omega⟩
 | i + 1=>by
  obtain ⟨h1,h2,h3⟩:=aG_in l n c i
  refine ⟨Y6H h1 (Y2Q fun j _=>?_),by show (aG l n c i ++ oL n _).length = _; rw [List.length_append,h2,Q1I,Nat.succ_mul],fun a j ha hj=>?_⟩
  ·have:=CS.to_le (l:=l) (c:=c.adv l (i * n + j)) (n:=9) (by omega)
   show -100 ≤ CS.to l _ 9 - 3 ∧ CS.to l _ 9 - 3 ≤ 100
   omega
  ·show (aG l n c i ++ oL n (aF l n c i)).getD (a * n + j) 0 = _
   by_cases e : a < i
   ·have hlt : a * n + j < i * n:=Y2N e hj
    rw [List.getD_eq_getElem?_getD,List.getElem?_append_left (by omega),← List.getD_eq_getElem?_getD]
    exact h3 a j e hj
   ·obtain rfl : a = i:=by omega
    rw [List.getD_eq_getElem?_getD,List.getElem?_append_right (by omega),h2,show a * n + j - a * n = j by omega,← List.getD_eq_getElem?_getD]
    exact X7L hj
theorem Y6V (l : List Int) (c : CS) : okP' (feaP l c) = true ∧ (∃ r n : Nat,(feaP l c).rows = r ∧ (feaP l c).cols = n ∧ 1 ≤ r ∧ r ≤ 3 ∧ 2 ≤ n ∧ n ≤ 5 ∧ dN l c = n) ∧ (∀ j,0 ≤ xD l c j ∧ xD l c j < 4) ∧ (feaP l c).lp.Fx (fun j=>((xD l c j : Int) : Rat)):=by
 have t1:=CS.to_le (l:=l) (c:=c) (n:=3) (by omega)
 have t2:=CS.to_le (l:=l) (c:=c.nx l) (n:=4) (by omega)
 have hR : 1 ≤ dR l c ∧ dR l c ≤ 3:=by unfold dR; omega
 have hN : 2 ≤ dN l c ∧ dN l c ≤ 5:=by unfold dN; omega
 have hx : ∀ j,0 ≤ xD l c j ∧ xD l c j < 4:=fun j=>CS.to_le (by omega)
 obtain ⟨a1,a2,a3⟩:=aG_in l (dN l c) (c.adv l (2 + 2 * dN l c)) (dR l c)
 have hb : inB (-100) 100 (feaP l c).b = true:=Y2Q fun i _=>by
  have:=X8E (n:=dN l c) (B:=15) (f:=fun k=>aF l (dN l c) (c.adv l (2 + 2 * dN l c)) i k * xD l c k) (fun k _=>by
   have h1:=CS.to_le (l:=l) (c:=(c.adv l (2 + 2 * dN l c)).adv l (i * dN l c + k)) (n:=9) (by omega)
   have h1 : -3 ≤ aF l (dN l c) (c.adv l (2 + 2 * dN l c)) i k ∧ aF l (dN l c) (c.adv l (2 + 2 * dN l c)) i k ≤ 5:=by unfold aF; omega
   have h2:=hx k
   have h3 : xD l c k = 0 ∨ xD l c k = 1 ∨ xD l c k = 2 ∨ xD l c k = 3:=by omega
   rcases h3 with h3 | h3 | h3 | h3 <;> rw [h3] <;> omega)
  have : ((dN l c : Nat) : Int) * 15 ≤ 75:=by omega
  omega
 have hc : inB (-100) 100 (feaP l c).c = true:=Y2Q fun j _=>by
  have:=CS.to_le (l:=l) (c:=c.adv l (2 + 2 * j + 1)) (n:=9) (by omega)
  show -100 ≤ CS.to l _ 9 - 4 ∧ CS.to l _ 9 - 4 ≤ 100
  omega
 have hbl : (feaP l c).b.length = dR l c:=Q1I
 have hcl : (feaP l c).c.length = dN l c:=Q1I
 have hal : (feaP l c).a.length = dR l c * dN l c:=a2
 have hai : inB (-100) 100 (feaP l c).a = true:=a1
 have e1 : (feaP l c).rows = dR l c:=rfl
 have e2 : (feaP l c).cols = dN l c:=rfl
 refine ⟨?_,⟨dR l c,dN l c,rfl,rfl,hR.1,hR.2,hN.1,hN.2,rfl⟩,hx,fun i hi=>?_,fun j hj=>?_⟩
 ·unfold okP'
  rw [hal,hbl,hcl,hai,hb,hc,e1,e2,Int.natCast_mul]
  simp only [decide_true,Bool.true_and,Bool.and_true,Bool.and_self]
  rw [decide_eq_true (by omega),decide_eq_true (by omega)]; rfl
 ·have hi : i < dR l c:=hi
  show sm (dN l c) (fun j=>(((feaP l c).a.getD (i * dN l c + j) 0 : Int) : Rat) * ((xD l c j : Int) : Rat)) = (((feaP l c).b.getD i 0 : Int) : Rat)
  have eb : (feaP l c).b.getD i 0 = smZ (dN l c) fun j=>aF l (dN l c) (c.adv l (2 + 2 * dN l c)) i j * xD l c j:=X7L hi
  rw [eb,X9O]
  exact Q0b fun j hj=>by
   rw [show (feaP l c).a.getD (i * dN l c + j) 0 = aF l (dN l c) (c.adv l (2 + 2 * dN l c)) i j from a3 i j hi hj,Rat.intCast_mul]
 ·have:=(hx j).1
  show (0 : Rat) ≤ ((xD l c j : Int) : Rat)
  exact_mod_cast this
def fstZ (p : Prg) (r c i j : Nat) : Int:=if j < c then sgR p i * (rowI p i).getD j 0 else if j < c + r then (if j = c + i then 1 else 0) else sgR p i * p.b.getD i 0
def fstI (p : Prg) (r c : Nat) : IT:=⟨fstZ p r c,1,fun i=>c + i,fun k=>decide (k < c)⟩
def o1 (r c j : Nat) : Int:=if j < c then 0 else if j < c + r then -1 else 0
theorem PD.z {p : Prg} {r c : Nat} (h : PD p r c) {i j : Nat} (hi : i < r) : (ph1 p.lp).A i j = ((fstZ p r c i j : Int) : Rat):=by
 unfold fstZ
 show (if j < p.lp.n then sg p.lp i * p.lp.A i j else if j < p.lp.n + p.lp.m then (if j = p.lp.n + i then (1 : Rat) else 0) else sg p.lp i * p.lp.b i) = _
 rw [h.n,h.m]
 by_cases h1 : j < c
 ·obtain ⟨a1,a2,a3⟩:=h.a i j hi h1
  rw [if_pos h1,if_pos h1,h.sgn,h.A,a1,Rat.intCast_mul]
 ·by_cases h2 : j < c + r
  ·rw [if_neg h1,if_neg h1,if_pos h2,if_pos h2]
   split <;> rfl
  ·rw [if_neg h1,if_neg h1,if_neg h2,if_neg h2,h.sgn,h.B,Rat.intCast_mul]
theorem PD.ir {p : Prg} {r c : Nat} (h : PD p r c) : IR p.lp r (c + r) (fstI p r c) (ph1 p.lp):=by
 have h1:=Y2f p.lp
 have h2:=Y6r p.lp
 have h3:=h.bd
 rw [h.m,h.n] at h1 h2 h3
 refine ⟨fun i hi=>by show c + i = p.lp.n + i; rw [h.n],fun i j hi hj=>?_,show (0 : Int) < 1 from by omega,h1,h2,1,h3,.inl rfl⟩
 show ((fstZ p r c i j : Int) : Rat) = (ph1 p.lp).A i j * ((1 : Int) : Rat)
 rw [h.z hi]; grind
theorem o1_c1 {p : Prg} {r c : Nat} (h : PD p r c) : (fun j=>((o1 r c j : Int) : Rat)) = c1 p.lp:=by
 funext j
 unfold o1 c1
 rw [h.n,h.m]
 split
 ·rfl
 ·split <;> rfl
theorem PD.endI {p : Prg} {r c : Nat} (h : PD p r c) : ∃ K t,stopI r (c + r) (o1 r c) (itI r (c + r) (o1 r c) (fstI p r c) K) = true ∧ (∀ n,n < K → stopI r (c + r) (o1 r c) (itI r (c + r) (o1 r c) (fstI p r c) n) = false) ∧
  (∀ n,n ≤ K → ∃ u,IR p.lp r (c + r) (itI r (c + r) (o1 r c) (fstI p r c) n) u) ∧ entI (itI r (c + r) (o1 r c) (fstI p r c) K) r (c + r) (o1 r c) = c + r ∧
  IR p.lp r (c + r) (itI r (c + r) (o1 r c) (fstI p r c) K) t ∧
  ((∀ i,i < r → c ≤ (itI r (c + r) (o1 r c) (fstI p r c) K).β i → (itI r (c + r) (o1 r c) (fstI p r c) K).W i (c + r) ≤ 0) ↔ ∃ x,p.lp.Fx x) ∧ ((∃ x,p.lp.Fx x) → Cl p.lp (c + r) r t):=by
 obtain ⟨K,g1,g2,g3,g4⟩:=runI (o:=o1 r c) h.ir
 obtain ⟨hK,hfr⟩:=g3 K (Nat.le_refl _)
 obtain ⟨k1,k2⟩:=X5L (st:=itU r (c + r) (o1 r c) (fstI p r c) (ph1 p.lp)) h.ir.tab g4 K (Nat.le_refl _)
 refine ⟨K,itU r (c + r) (o1 r c) (fstI p r c) (ph1 p.lp) K,g1,g2,fun n hn=>⟨_,(g3 n hn).1⟩, ?_⟩
 have hent:=X1j hK (o1 r c)
 have hlv:=fun hlt=>X0R (k:=entI (itI r (c + r) (o1 r c) (fstI p r c) K) r (c + r) (o1 r c)) hK hlt r (Nat.le_refl _)
 have hk2 : ∀ x,Sol p.lp.m (p.lp.n + p.lp.m) (ph1 p.lp).A x ↔ Sol p.lp.m (p.lp.n + p.lp.m) (itU r (c + r) (o1 r c) (fstI p r c) (ph1 p.lp) K).A x:=by rw [h.m,h.n]; exact k2
 have hle : entI (itI r (c + r) (o1 r c) (fstI p r c) K) r (c + r) (o1 r c) ≤ c + r:=by unfold entI; exact Q1h.1
 have ht:=hK.tab
 have hf:=hK.fea
 rw [o1_c1 h] at hent
 unfold stopI at g1
 generalize entI (itI r (c + r) (o1 r c) (fstI p r c) K) r (c + r) (o1 r c) = e at *
 generalize itI r (c + r) (o1 r c) (fstI p r c) K = s at *
 generalize itU r (c + r) (o1 r c) (fstI p r c) (ph1 p.lp) K = t at *
 have hm:=h.m
 have hn:=h.n
 have hee : e = c + r:=by
  rcases Nat.lt_or_eq_of_le hle with hlt | q
  ·exfalso
   have he:=hent.1 hlt
   have ht2 : Tab p.lp.m (p.lp.n + p.lp.m) t:=by rw [hn,hm]; exact ht
   rw [← hn,← hm] at he
   obtain ⟨i,hi,hp⟩:=Y2h ht2 (by rw [hm] at he ⊢; exact he)
   have hl:=hlv hlt
   cases e2 : lvI s (c + r) e r with
   | none =>
    rw [e2] at hl
    have:=hl i (by rw [← hm]; exact hi)
    grind
   | some b =>
    rw [e2] at g1
    simp only [Option.isNone_some,Bool.or_false,decide_eq_true_iff] at g1
    omega
  ·exact q
 refine ⟨hee,hK, ?_⟩
 have hend:=hent.2 hee
 have hpe:=Y6s (fr:=fun j=>s.fr j = true) (t:=t) (by rw [hn,hm]; exact ht) (by rw [hn,hm]; exact hf) hk2 (fun j hj=>by rw [hfr]; exact decide_eq_true (by rw [← hn]; exact hj)) (fun j hj hfj hb=>by
  rw [hm] at hb ⊢
  rw [pos1]
  exact hend j (by rw [← hm,← hn]; exact hj) hfj hb)
 have e3 : (∀ i,i < r → p.lp.n ≤ t.β i → t.A i (c + r) = 0) ↔ ∃ x,p.lp.Fx x:=by rw [hpe,hm,hn]
 have e4 : (∀ i,i < r → c ≤ s.β i → s.W i (c + r) ≤ 0) ↔ ∀ i,i < r → p.lp.n ≤ t.β i → t.A i (c + r) = 0:=by
  constructor
  ·intro q i hi hb
   have q1:=q i hi (by rw [hK.beta i hi,← hn]; exact hb)
   have q2:=hK.pos (i:=i) (j:=c + r) hi (Nat.le_refl _)
   have q3:=hf i hi
   rcases Q0r 0 (t.A i (c + r)) with w | w
   ·have:=q2.2 w; omega
   ·grind
  ·intro q i hi hb
   have q1:=q i hi (by rw [← hK.beta i hi,hn]; exact hb)
   have:=(hK.zero (i:=i) (j:=c + r) hi (Nat.le_refl _)).2 q1
   omega
 refine ⟨e4.trans e3,fun hx=>?_⟩
 have:=Cl.first (p:=p.lp) (t:=t) (by rw [hn,hm]; exact ht) (by rw [hn,hm]; exact hf) hk2 (by have q:=e3.2 hx; rw [hn] at q; rw [hm,hn]; exact q)
 rw [hm,hn] at this
 exact this
def delI (s : IT) (i : Nat) : IT:=⟨fun a=>s.W (skp i a),s.d,fun a=>s.β (skp i a),s.fr⟩
noncomputable def nzI (s : IT) (i c : Nat) : Nat:=fstN (fun j=>decide (s.W i j ≠ 0)) c
noncomputable def lvv (c : Nat) : Nat → Nat → Nat → IT → Nat × IT
 | 0,_,m,s=>(m,s)
 | f + 1,i,m,s=>if s.β i < c then lvv c f (i + 1) m s else if nzI s i c < c then lvv c f (i + 1) m (pivI s i (nzI s i c)) else lvv c f i (m - 1) (delI s i)
structure CI (p : Prg) (r c i m : Nat) (z : IT) (u : Tb) : Prop where
 ir : IR p.lp m (c + r) z u
 cl : Cl p.lp (c + r) m u
 bs : ∀ a,a < i → z.β a < c
 mr : m ≤ r
theorem CI.skip {p : Prg} {r c i m : Nat} {z : IT} {u : Tb} (h : CI p r c i m z u) (hb : z.β i < c) : CI p r c (i + 1) m z u :=
 ⟨h.ir,h.cl,fun a ha=>by
  by_cases e : a = i
  ·subst e; exact hb
  ·exact h.bs a (by omega),h.mr⟩
theorem CI.piv {p : Prg} {r c i m : Nat} {z : IT} {u : Tb} (hp : PD p r c) (h : CI p r c i m z u) (hi : i < m) (hb : ¬ z.β i < c) (hk : nzI z i c < c) : z.W i (nzI z i c) ≠ 0 ∧ CI p r c (i + 1) m (pivI z i (nzI z i c)) (u.piv i (nzI z i c)):=by
 have f3:=(Q1h (P:=fun j=>decide (z.W i j ≠ 0)) (n:=c)).2.2
 change nzI z i c < c → _ at f3
 have f3:=f3 hk
 change decide (z.W i (nzI z i c) ≠ 0) = true at f3
 have hW : z.W i (nzI z i c) ≠ 0:=of_decide_eq_true f3
 generalize nzI z i c = k at *
 have h0 : u.A i k ≠ 0:=fun e=>hW ((h.ir.zero hi (by omega)).2 e)
 have hn:=hp.n
 have hcl:=h.cl.piv hi (by rw [hn,← h.ir.beta i hi]; omega) (by rw [hn]; exact hk) h0
 refine ⟨hW,h.ir.piv hi (by omega) h0 hcl.fea,hcl,fun a ha=>?_,h.mr⟩
 show (if a = i then k else z.β a) < c
 split
 ·exact hk
 ·exact h.bs a (by omega)
theorem CI.del {p : Prg} {r c i m : Nat} {z : IT} {u : Tb} (hp : PD p r c) (h : CI p r c i (m + 1) z u) (hi : i < m + 1) (hb : ¬ z.β i < c) (hk : ¬ nzI z i c < c) : CI p r c i m (delI z i) (u.del i):=by
 obtain ⟨f1,f2,f3⟩:=Q1h (P:=fun j=>decide (z.W i j ≠ 0)) (n:=c)
 change nzI z i c ≤ c at f1
 have hz : ∀ j,j < c → z.W i j = 0:=fun j hj=>by
  have : decide (z.W i j ≠ 0) = false:=f2 j (by show j < nzI z i c; omega)
  simpa using this
 have hn:=hp.n
 have hcl:=h.cl.del (i:=i) (by omega) (fun j hj=>(h.ir.zero hi (by rw [hn] at hj; omega)).1 (hz j (by rw [← hn]; exact hj))) (by rw [hn,← h.ir.beta i hi]; omega)
 have hs : ∀ a,a < m → skp i a < m + 1:=fun a ha=>by unfold skp; split <;> omega
 obtain ⟨δ,hd,hδ⟩:=h.ir.bd
 refine ⟨⟨fun a ha=>h.ir.beta _ (hs a ha),fun a j ha hj=>h.ir.val _ j (hs a ha) hj,h.ir.dp,hcl.tab,hcl.fea,δ, ?_,hδ⟩,hcl,fun a ha=>?_,by have:=h.mr; omega⟩
 ·exact hd.sub (skp i) id hs (fun a b ha hb e=>by unfold skp at e; split at e <;> split at e <;> omega) (fun _ h=>h) (fun _ h=>h) (fun _ _ _ _=>rfl)
 ·show z.β (skp i a) < c
  have : skp i a = a:=by unfold skp; rw [if_pos ha]
  rw [this]; exact h.bs a ha
theorem CI.ph2 {p : Prg} {r c m : Nat} {z : IT} {u : Tb} (hp : PD p r c) (h : CI p r c m m z u) : Ph2 p.lp (c + r) m u :=
 h.cl.ph2 fun i hi=>by rw [hp.n,← h.ir.beta i hi]; exact h.bs i hi
theorem CI.first {p : Prg} {r c : Nat} {z : IT} {u : Tb} (h : IR p.lp r (c + r) z u) (hc : Cl p.lp (c + r) r u) : CI p r c 0 r z u:=⟨h,hc,fun a ha=>by omega,Nat.le_refl _⟩
theorem IR.fr {p : LP} {m N : Nat} {s : IT} {t : Tb} (h : IR p m N s t) (f : Nat → Bool) : IR p m N { s with fr:=f } t:=⟨h.beta,h.val,h.dp,h.tab,h.fea,h.bd⟩
def oS (p : Prg) : Nat → Nat → Int
 | 0,j=>p.c.getD j 0
 | l + 1,j=>if j = l then -1 else 0
theorem oS_C {p : Prg} {r c : Nat} (h : PD p r c) : ∀ l,(fun j=>((oS p l j : Int) : Rat)) = p.lp.C l
 | 0=>by funext j; exact (h.C j).symm
 | l + 1=>by
  funext j
  show ((if j = l then (-1 : Int) else 0 : Int) : Rat) = if j = l then (-1 : Rat) else 0
  split <;> rfl
theorem Y5q {p : Prg} {r c : Nat} (h : PD p r c) : ∀ l j,-100 ≤ oS p l j ∧ oS p l j ≤ 100
 | 0,j=>h.cc j
 | l + 1,j=>by
  show -100 ≤ (if j = l then (-1 : Int) else 0) ∧ (if j = l then (-1 : Int) else 0) ≤ 100
  split <;> omega
structure SI (p : Prg) (r c m l : Nat) (s : IT) (t : Tb) : Prop where
 ir : IR p.lp m (c + r) s t
 im : Im p.lp (c + r) m (fun j=>s.fr j = true) l t
theorem Im.congr {p : LP} {N m l : Nat} {fr fr' : Nat → Prop} {t : Tb} (h : Im p N m fr l t) (e : ∀ j,fr j ↔ fr' j) : Im p N m fr' l t:=by
 have : fr = fr':=funext fun j=>propext (e j)
 rw [← this]; exact h
theorem SI.first {p : Prg} {r c m : Nat} {z : IT} {u : Tb} (hp : PD p r c) (h : CI p r c m m z u) : SI p r c m 0 { z with fr:=fun k=>decide (k < c) } u :=
 ⟨h.ir.fr _,(Im.first (h.ph2 hp)).congr fun j=>by
  show j < p.lp.n ↔ decide (j < c) = true
  rw [hp.n,decide_eq_true_iff]⟩
theorem SI.max {p : Prg} {r c m l : Nat} {s : IT} {t : Tb} (hp : PD p r c) (h : SI p r c m l s t) : ∃ K t',stopI m (c + r) (oS p l) (itI m (c + r) (oS p l) s K) = true ∧ (∀ n,n < K → stopI m (c + r) (oS p l) (itI m (c + r) (oS p l) s n) = false) ∧
  (∀ n,n ≤ K → ∃ u,IR p.lp m (c + r) (itI m (c + r) (oS p l) s n) u) ∧
  (entI (itI m (c + r) (oS p l) s K) m (c + r) (oS p l) = c + r → SI p r c m (l + 1) (resI (itI m (c + r) (oS p l) s K) m (oS p l)) t') ∧
  (entI (itI m (c + r) (oS p l) s K) m (c + r) (oS p l) ≠ c + r → l = 0 ∧ p.lp.Open):=by
 obtain ⟨K,g1,g2,g3,g4⟩:=runI (o:=oS p l) h.ir
 obtain ⟨hK,hfr⟩:=g3 K (Nat.le_refl _)
 have him : ∀ n,n ≤ K → Im p.lp (c + r) m (fun j=>s.fr j = true) l (itU m (c + r) (oS p l) s t n):=by
  intro n
  induction n with
  | zero=>intro _; exact h.im
  | succ n ih =>
   intro hn
   obtain ⟨k,rr,st⟩:=g4 n (by omega)
   rw [oS_C hp] at st
   exact (ih (by omega)).step st
 refine ⟨K,itU m (c + r) (oS p l) s t K,g1,g2,fun n hn=>⟨_,(g3 n hn).1⟩, ?_⟩
 have hI:=him K (Nat.le_refl _)
 have hent:=X1j hK (oS p l)
 have hlv:=fun hlt=>X0R (k:=entI (itI m (c + r) (oS p l) s K) m (c + r) (oS p l)) hK hlt m (Nat.le_refl _)
 have hle : entI (itI m (c + r) (oS p l) s K) m (c + r) (oS p l) ≤ c + r:=by unfold entI; exact Q1h.1
 have hgn:=fun k (hk : k ≤ c + r)=>Y6J hK (o:=oS p l) hk
 rw [oS_C hp] at hent hgn
 unfold stopI at g1
 generalize entI (itI m (c + r) (oS p l) s K) m (c + r) (oS p l) = e at *
 generalize itI m (c + r) (oS p l) s K = z at *
 generalize itU m (c + r) (oS p l) s t K = u at *
 rw [hfr] at hent
 refine ⟨fun hee=>?_,fun hee=>?_⟩
 ·refine ⟨hK.fr _,(hI.next (hent.2 hee)).congr fun j=>?_⟩
  show _ ↔ (z.fr j && !(!(basB z.β m j) && decide (gnI z m (oS p l) j < 0))) = true
  rw [hfr]
  by_cases hj : s.fr j = true
  ·have hjc : j < c:=by rw [← hp.n]; exact hI.frn j hj
   have h1:=hgn j (by omega)
   have h2:=hK.bas (j:=j)
   rw [← h1,← h2,hj]
   cases basB z.β m j <;> simp
  ·simp [hj]
 ·have hlt : e < c + r:=by omega
  have he:=hent.1 hlt
  have hl:=hlv hlt
  cases e2 : lvI z (c + r) e m with
  | some b =>
   rw [e2] at g1
   simp only [Option.isNone_some,Bool.or_false,decide_eq_true_iff] at g1
   exact absurd g1 hee
  | none =>
   rw [e2] at hl
   exact hI.ph.open (l0:=l) he (hI.frn _ he.free) hl fun l' hl'=>by
    have : l' = 0:=by omega
    rw [this,Nat.add_zero]
def xR (N : Nat) (s : IT) : Nat → Nat → Rat
 | 0=>fun _=>0
 | i + 1=>fun j=>if j = s.β i then mkRat (s.W i N) s.d.natAbs else xR N s i j
theorem IR.rat {p : LP} {m N : Nat} {s : IT} {t : Tb} (h : IR p m N s t) {i j : Nat} (hi : i < m) (hj : j ≤ N) : mkRat (s.W i j) s.d.natAbs = t.A i j:=by
 have hd:=h.dpos
 have hdn : ((s.d.natAbs : Nat) : Int) = s.d:=by have:=h.dp; omega
 have hne : (s.d : Rat) ≠ 0:=Q3s hd
 rw [Rat.mkRat_eq_div,h.val i j hi hj,show ((s.d.natAbs : Nat) : Rat) = (((s.d.natAbs : Nat) : Int) : Rat) from rfl,hdn,Rat.div_def,Rat.mul_assoc,Rat.mul_inv_cancel _ hne,Rat.mul_one]
theorem Y1o {p : LP} {m N : Nat} {s : IT} {t : Tb} (h : IR p m N s t) (j : Nat) : ∀ k,k ≤ m → xR N s k j = sm k (fun i=>if t.β i = j then t.A i N else 0)
 | 0,_=>rfl
 | k + 1,hk=>by
  have ih:=Y1o h j k (by omega)
  have hb:=h.beta k (by omega)
  show (if j = s.β k then mkRat (s.W k N) s.d.natAbs else xR N s k j) = sm k (fun i=>if t.β i = j then t.A i N else 0) + if t.β k = j then t.A k N else 0
  by_cases e : j = s.β k
  ·have e2 : t.β k = j:=by rw [← hb,e]
   have z : sm k (fun i=>if t.β i = j then t.A i N else 0) = 0:=Q0L fun i hi=>if_neg fun q=>by
    have:=h.tab.inj (i:=i) (k:=k) (by omega) (by omega) (by rw [q,e2])
    omega
   rw [if_pos e,if_pos e2,z,h.rat (by omega) (Nat.le_refl _)]; grind
  ·have e2 : ¬ t.β k = j:=fun q=>e (by rw [hb,q])
   rw [if_neg e,if_neg e2,ih]; grind
theorem SI.best {p : Prg} {r c m : Nat} {s : IT} {t : Tb} (hp : PD p r c) (h : SI p r c m (c + 1) s t) : p.lp.Best (fun j=>xR (c + r) s m j):=by
 have e : (fun j=>xR (c + r) s m j) = pt m (c + r) t:=by funext j; exact Y1o h.ir j m (Nat.le_refl _)
 rw [e]
 refine Im.best (fr:=fun j=>s.fr j = true) ?_
 rw [hp.n]; exact h.im
end Go.Proofs.Ytchlpclgkhggeaa