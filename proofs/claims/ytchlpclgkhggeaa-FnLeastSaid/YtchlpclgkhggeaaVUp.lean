/- part of the proof -/
import Derived.Test.YtchlpclgkhggeaaVSa
import Derived.Test.YtchlpclgkhggeaaVUb
import Derived.Test.YtchlpclgkhggeaaVTl
namespace Go.Proofs.Ytchlpclgkhggeaa
open Go Go.RowKit
set_option maxRecDepth 100000
set_option maxHeartbeats 4000000
set_option linter.unusedVariables false
set_option linter.unusedSimpArgs false
theorem X0f {n : Nat} {o : Nat → Int} : oL (n + 1) o = oL n o ++ [o n]:=by unfold oL; rw [List.range_succ,List.map_append]; rfl
theorem CS.adv_s {l : List Int} {c : CS} {n : Nat} : c.adv l (n + 1) = (c.adv l n).nx l:=rfl
def aD (l : List Int) (c : CS) : Int:=if (c.nx l).to l 3 = 0 then 0 else c.to l 9 - 3
def rowE (l : List Int) (n : Nat) (c : CS) : CS:=c.adv l (2 * n)
def rowN (l : List Int) (n : Nat) (c : CS) : CS:=if (rowE l n c).to l 8 = 0 then ((rowE l n c).nx l).nx l else (rowE l n c).nx l
def rowC (l : List Int) (n : Nat) (c : CS) : Nat → CS
 | 0=>c
 | i + 1=>rowN l n (rowC l n c i)
def aR (l : List Int) (c : CS) (j : Nat) : Int:=aD l (c.adv l (2 * j))
def bR (l : List Int) (n : Nat) (c : CS) (x : Nat → Int) : Int:=if (rowE l n c).to l 8 = 0 then ((rowE l n c).nx l).to l 21 - 10 else smZ n (fun j=>aR l c j * x j)
def dR (l : List Int) (c : CS) : Nat:=(1 + c.to l 3).toNat
def dN (l : List Int) (c : CS) : Nat:=(2 + (c.nx l).to l 4).toNat
def xD (l : List Int) (c : CS) (j : Nat) : Int:=(c.adv l (2 + 2 * j)).to l 4
def cD (l : List Int) (c : CS) (j : Nat) : Int:=(c.adv l (2 + 2 * j + 1)).to l 9 - 4
def aL (l : List Int) (n : Nat) (c : CS) : Nat → List Int
 | 0=>[]
 | i + 1=>aL l n c i ++ oL n (aR l (rowC l n c i))
def drwP (l : List Int) (c : CS) : Prg:=⟨dR l c,dN l c,aL l (dN l c) (c.adv l (2 + 2 * dN l c)) (dR l c),oL (dR l c) (fun i=>bR l (dN l c) (rowC l (dN l c) (c.adv l (2 + 2 * dN l c)) i) (xD l c)),oL (dN l c) (cD l c)⟩
theorem X7R (l : List Int) (c : CS) : -3 ≤ aD l c ∧ aD l c ≤ 5:=by
 unfold aD
 split
 ·omega
 ·have:=CS.to_le (l:=l) (c:=c) (n:=9) (by omega); omega
theorem X3y {f : Nat → Int} {B : Int} : ∀ {n : Nat},(∀ j,j < n → -B ≤ f j ∧ f j ≤ B) → -(n * B) ≤ smZ n f ∧ smZ n f ≤ n * B
 | 0,_=>by show -((0 : Nat) * B) ≤ (0 : Int) ∧ (0 : Int) ≤ (0 : Nat) * B; simp
 | n + 1,h=>by
  have ih:=X3y (n:=n) (B:=B) (f:=f) fun j hj=>h j (by omega)
  have h1:=h n (by omega)
  show -(((n + 1 : Nat) : Int) * B) ≤ smZ n f + f n ∧ smZ n f + f n ≤ ((n + 1 : Nat) : Int) * B
  have e : ((n + 1 : Nat) : Int) * B = (n : Int) * B + B:=by rw [Int.natCast_add,Int.add_mul]; simp
  rw [e]; omega
theorem X6e {l : List Int} {n : Nat} {c : CS} (h : c.Ok l) : ∀ i,(rowC l n c i).Ok l
 | 0=>h
 | i + 1=>by
  have ih:=X6e (n:=n) h i
  show (rowN l n (rowC l n c i)).Ok l
  unfold rowN rowE
  split
  ·exact (ih.adv.nx).nx
  ·exact ih.adv.nx
def Q5a : List (Nat × (List Nat × List Nat × List Nat)):=[(7,[0,1,2,3,4,5,6,7,8],[],[999999,1000029])]
theorem X0F : Txt PP Q4j Try.f42 Q5T Q5a:=⟨X0n,Try.func42,rfl,by kernel_rfl,by kernel_rfl⟩
attribute [go_sem] Q5a
abbrev zP : Ob:=⟨.own,Q0n,[I 0,I 0,.emp,.emp,.emp]⟩
theorem X6X (l : List Int) (c : CS) (hl : l.length ≤ 1048576) (hc : c.Ok l) :
  GC PP Q4j [.ref 0 0] [curS l c] (.agg [I (dR l c),I (dN l c),.rsl 1 1 0 (drwP l c).a.length,.rsl 2 1 0 (dR l c),.rsl 3 1 0 (dN l c)]) [curS l (rowC l (dN l c) (c.adv l (2 + 2 * dN l c)) (dR l c)),⟨.own,T_int,iC (drwP l c).a⟩,⟨.own,T_int,iC (drwP l c).b⟩,⟨.own,T_int,iC (drwP l c).c⟩]:=by
 have t1:=CS.to_le (l:=l) (c:=c) (n:=3) (by omega)
 have t2:=CS.to_le (l:=l) (c:=c.nx l) (n:=4) (by omega)
 have q1:=Q2l l c hl hc 3 (by omega)
 have q2:=Q2l l (c.nx l) hl hc.nx 4 (by omega)
 have eR : 1 + c.to l 3 = ((dR l c : Nat) : Int):=by unfold dR; omega
 have eN : 2 + (c.nx l).to l 4 = ((dN l c : Nat) : Int):=by unfold dN; omega
 have hR : dR l c ≤ 3:=by omega
 have hN : dN l c ≤ 5:=by omega
 have hx : ∀ j,xD l c j = (c.adv l (2 + 2 * j)).to l 4:=fun j=>rfl
 have hcd : ∀ j,cD l c j = (c.adv l (2 + 2 * j + 1)).to l 9 - 4:=fun j=>rfl
 have hxr : ∀ j,0 ≤ xD l c j ∧ xD l c j < 4:=fun j=>CS.to_le (by omega)
 show GC PP Q4j [.ref 0 0] [curS l c] (.agg [I (dR l c),I (dN l c),.rsl 1 1 0 (aL l (dN l c) (c.adv l (2 + 2 * dN l c)) (dR l c)).length,.rsl 2 1 0 (dR l c),.rsl 3 1 0 (dN l c)]) [curS l (rowC l (dN l c) (c.adv l (2 + 2 * dN l c)) (dR l c)),⟨.own,T_int,iC (aL l (dN l c) (c.adv l (2 + 2 * dN l c)) (dR l c))⟩,⟨.own,T_int,iC (oL (dR l c) (fun i=>bR l (dN l c) (rowC l (dN l c) (c.adv l (2 + 2 * dN l c)) i) (xD l c)))⟩,⟨.own,T_int,iC (oL (dN l c) (cD l c))⟩]
 generalize xD l c = x at *
 generalize cD l c = cc at *
 generalize dR l c = R at *
 generalize dN l c = n at *
 generalize e1 : c.to l 3 = t at *
 generalize e2 : (c.nx l).to l 4 = t' at *
 refine txg X0F Q5G 1 [] [] [1,6,7,15,16,18,20,21,22] rfl (by kernel_rfl) ?_
 simp -dsimp(disch:=first|exact om|fail)only[go_sem,simprocAttr,xE,xN,xC,xP,xA,xZ]
 refine callG' [0] q1 (by decide) lL lL lE lF ?_
 simp -dsimp(disch:=first|exact om|fail)only[go_sem,simprocAttr,xE,xN,xC,xP,xA,xZ,eR]
 refine callG' [0] q2 (by decide) lL lL lE lF ?_
 simp -dsimp(disch:=first|exact om|fail)only[go_sem,simprocAttr,xE,xN,xC,xP,xA,xZ,eR,eN]
 refine loopJ (fun j : Nat=>j ≤ n) (fun j=>⟨[(0,.ref 0 0),(2,.ref 1 0),(3,.ref 2 0),(4,.rsl 3 1 0 j),(5,I j)],[curS l (c.adv l (2 + 2 * j)),zP,⟨.own,Q0n,[I R,I n,.emp,.emp,.rsl 4 1 0 j]⟩,⟨.own,T_int,iC (oL j x)⟩,⟨.own,T_int,iC (oL j cc)⟩]⟩) (fun j=>n - j) 0 (by omega) ?_ ?_
 ·rw [show c.adv l (2 + 2 * 0) = (c.nx l).nx l from rfl]
  refine StI.ren [some 0,some 1,some 4,none,none] [[],[],[],[],[]] lE (by decide) ?_ lW
  simp -dsimp(disch:=first|exact om|fail)only[go_sem,simprocAttr,xE,xN,xC,xP,xA,xZ]
  exact ⟨rfl,rfl⟩
 intro j hj
 by_cases hjn : j < n
 ·have hok : (c.adv l (2 + 2 * j)).Ok l:=hc.adv
  have hn2 : c.adv l (2 + 2 * (j + 1)) = ((c.adv l (2 + 2 * j)).nx l).nx l:=rfl
  have hx:=hx j
  have hcd:=hcd j
  have hxr:=hxr j
  rw [CS.adv_s] at hcd
  have hx1 : iC (oL j x) ++ [I (x j)] = iC (oL (j + 1) x):=by rw [X0f]; simp [iC]
  have hc2 : oL j cc ++ [cc j] = oL (j + 1) cc:=X0f.symm
  have hc1 : iC (oL j cc) ++ [I (cc j)] = iC (oL (j + 1) cc):=by rw [X0f]; simp [iC]
  generalize c.adv l (2 + 2 * j) = d at *
  have p1:=Q2l l d hl hok 4 (by omega)
  have p2:=Q2l l (d.nx l) hl hok.nx 9 (by omega)
  have p2r:=CS.to_le (l:=l) (c:=d.nx l) (n:=9) (by omega)
  rw [← hx] at p1
  generalize (d.nx l).to l 9 = y at *
  have hcd' : y - 4 = cc j:=hcd.symm
  simp -dsimp(disch:=first|exact om|fail)only[go_sem,simprocAttr,xE,xN,xC,xP,xA,xZ]
  refine callG' [0] p1 (by decide) lL lL lE lF ?_
  simp -dsimp(disch:=first|exact om|fail)only[go_sem,simprocAttr,xE,xN,xC,xP,xA,xZ,hx1]
  refine callGL [0] p2 rfl (by decide) lW lW lE lF lW ?_
  simp -dsimp(disch:=first|exact om|fail)only[go_sem,simprocAttr,xE,xN,xC,xP,xA,xZ,hcd',hx1]
  refine mtBsl [] (by simp -dsimp(disch:=first|exact om|fail)only[go_sem,simprocAttr,xE,xN,xC,xP,xA,xZ]; exact ⟨rfl,rfl⟩) (hkp0 lW) lW ?_
  simp -dsimp(disch:=first|exact om|fail)only[go_sem,simprocAttr,xE,xN,xC,xP,xA,xZ]
  refine mtApp [4,9] (by simp -dsimp(disch:=first|exact om|fail)only[go_sem,simprocAttr,xE,xN,xC,xP,xA,xZ]; exact ⟨rfl,rfl⟩) (hkp0 lW) lW ?_
  simp -dsimp(disch:=first|exact om|fail)only[go_sem,simprocAttr,xE,xN,xC,xP,xA,xZ,hc1,hc2]
  refine ⟨j + 1,by omega,by omega, ?_⟩
  rw [hn2]
  exact StI.ren [some 0,some 1,some 2,some 7,some 10] [[],[],[],[],[]] lE (by decide) lW lW
 ·obtain rfl : n = j:=by omega
  clear hx hcd
  have hok3 : (c.adv l (2 + 2 * n)).Ok l:=hc.adv
  generalize c.adv l (2 + 2 * n) = c3 at *
  have hrok:=X6e (n:=n) hok3
  obtain ⟨W,hW⟩ : ∃ W : Nat → CS,W = rowC l n c3:=⟨_,rfl⟩
  have hWs : ∀ i,W (i + 1) = rowN l n (W i):=fun i=>by rw [hW]; rfl
  have hW0 : W 0 = c3:=by rw [hW]; rfl
  obtain ⟨A,hA⟩ : ∃ A : Nat → List Int,A = aL l n c3:=⟨_,rfl⟩
  have hAs : ∀ i,A (i + 1) = A i ++ oL n (aR l (W i)):=fun i=>by rw [hA,hW]; rfl
  have hA0 : A 0 = []:=by rw [hA]; rfl
  have hAl : ∀ i,(A i).length = i * n:=fun i=>by
   induction i with
   | zero=>rw [hA0]; simp
   | succ i ih=>rw [hAs,List.length_append,ih,Q1p,Nat.succ_mul]
  obtain ⟨B,hB⟩ : ∃ B : Nat → Int,B = fun i=>bR l n (W i) x:=⟨_,rfl⟩
  have hBi : ∀ i,B i = bR l n (W i) x:=fun i=>by rw [hB]
  rw [← hW] at hrok ⊢
  rw [← hA,← hB]
  clear hA hW hB
  simp -dsimp(disch:=first|exact om|fail)only[go_sem,simprocAttr,xE,xN,xC,xP,xA,xZ]
  refine loopJ (fun i : Nat=>i ≤ R) (fun i=>⟨[(0,.ref 0 0),(2,.ref 1 0),(3,.ref 2 0),(4,.rsl 3 1 0 n),(6,I i)],[curS l (W i),zP,⟨.own,Q0n,[I R,I n,.rsl 4 1 0 (i * n),.rsl 5 1 0 i,.rsl 6 1 0 n]⟩,⟨.own,T_int,iC (oL n x)⟩,⟨.own,T_int,iC (A i)⟩,⟨.own,T_int,iC (oL i B)⟩,⟨.own,T_int,iC (oL n cc)⟩]⟩) (fun i=>R - i) 0 (by omega) ?_ ?_
  ·rw [hW0,hA0]
   refine StI.ren [some 0,some 1,some 2,some 3,none,none,some 4] [[],[],[],[],[],[],[]] lE (by decide) ?_ lW
   simp -dsimp(disch:=first|exact om|fail)only[go_sem,simprocAttr,xE,xN,xC,xP,xA,xZ]
   exact ⟨rfl,rfl⟩
  intro i hi
  by_cases hiR : i < R
  ·have hoki:=hrok i
   have hWs:=hWs i
   have hAs:=hAs i
   have hAl:=hAl i
   have hBi:=hBi i
   unfold bR at hBi
   unfold rowN at hWs
   have hE : rowE l n (W i) = (W i).adv l (2 * n):=rfl
   rw [hE] at hBi hWs
   have hok8 : ((W i).adv l (2 * n)).Ok l:=hoki.adv
   have hAr : ∀ j,aR l (W i) j = aD l ((W i).adv l (2 * j)):=fun j=>rfl
   have hArr : ∀ j,-3 ≤ aR l (W i) j ∧ aR l (W i) j ≤ 5:=fun j=>X7R l _
   obtain ⟨S,hS⟩ : ∃ S : Nat → Int,S = fun j=>smZ j (fun k=>aR l (W i) k * x k):=⟨_,rfl⟩
   have hS0 : S 0 = 0:=by rw [hS]; rfl
   have hSs : ∀ j,S (j + 1) = S j + aR l (W i) j * x j:=fun j=>by rw [hS]; rfl
   have hSr : ∀ j,j ≤ n → -75 ≤ S j ∧ S j ≤ 75:=fun j hj=>by
    rw [hS]
    have:=X3y (n:=j) (B:=15) (f:=fun k=>aR l (W i) k * x k) (fun k _=>by
     have h1:=hArr k
     have h2:=hxr k
     have h3 : x k = 0 ∨ x k = 1 ∨ x k = 2 ∨ x k = 3:=by omega
     rcases h3 with h3 | h3 | h3 | h3 <;> rw [h3] <;> omega)
    have hj5 : (j : Int) ≤ 5:=by omega
    have : (j : Int) * 15 ≤ 75:=by omega
    show -75 ≤ smZ j _ ∧ smZ j _ ≤ 75
    omega
   have hSn : smZ n (fun j=>aR l (W i) j * x j) = S n:=by rw [hS]
   rw [hSn] at hBi
   clear hS
   simp -dsimp(disch:=first|exact om|fail)only[go_sem,simprocAttr,xE,xN,xC,xP,xA,xZ]
   refine loopJ (fun j : Nat=>j ≤ n) (fun j=>⟨[(0,.ref 0 0),(2,.ref 1 0),(3,.ref 2 0),(4,.rsl 3 1 0 n),(6,I i),(7,I (S j)),(8,I j)],[curS l ((W i).adv l (2 * j)),zP,⟨.own,Q0n,[I R,I n,.rsl 4 1 0 (i * n + j),.rsl 5 1 0 i,.rsl 6 1 0 n]⟩,⟨.own,T_int,iC (oL n x)⟩,⟨.own,T_int,iC (A i ++ oL j (aR l (W i)))⟩,⟨.own,T_int,iC (oL i B)⟩,⟨.own,T_int,iC (oL n cc)⟩]⟩) (fun j=>n - j) 0 (by omega) ?_ ?_
   ·rw [hS0,show oL 0 (aR l (W i)) = [] from rfl,List.append_nil,show (W i).adv l (2 * 0) = W i from rfl]
    exact StI.ren [some 0,some 1,some 2,some 3,some 4,some 5,some 6] [[],[],[],[],[],[],[]] lE (by decide) lW lW
   intro j hj
   by_cases hjn : j < n
   ·have hAr:=hAr j
    have hArr:=hArr j
    have hSs:=hSs j
    have hSr1:=hSr j hj
    have hSr2:=hSr (j + 1) hjn
    have hxr:=hxr j
    have hokd : ((W i).adv l (2 * j)).Ok l:=hoki.adv
    have hnx : (W i).adv l (2 * (j + 1)) = (((W i).adv l (2 * j)).nx l).nx l:=rfl
    have hpu : A i ++ oL j (aR l (W i)) ++ [aR l (W i) j] = A i ++ oL (j + 1) (aR l (W i)):=by rw [X0f,List.append_assoc]
    have hin : i * n ≤ 2 * 5:=Nat.mul_le_mul (by omega) (by omega)
    have hAj : (A i ++ oL j (aR l (W i))).length = i * n + j:=by rw [List.length_append,hAl,Q1p]
    unfold aD at hAr
    generalize (W i).adv l (2 * j) = d at *
    have p1:=Q2l l d hl hokd 9 (by omega)
    have p1r:=CS.to_le (l:=l) (c:=d) (n:=9) (by omega)
    have p2:=X2S l (d.nx l) hl hokd.nx 3 (by omega)
    generalize hy : d.to l 9 = y at *
    generalize (d.nx l).to l 3 = w at *
    generalize aR l (W i) j = aj at *
    simp -dsimp(disch:=first|exact om|fail)only[go_sem,simprocAttr,xE,xN,xC,xP,xA,xZ]
    refine callG' [0] p1 (by decide) lL lL lE lF ?_
    by_cases hw : w = 0
    ·rw [if_pos hw] at hAr
     rw [decide_eq_true hw] at p2
     simp -dsimp(disch:=first|exact om|fail)only[go_sem,simprocAttr,xE,xN,xC,xP,xA,xZ]
     refine callG' [0] p2 (by decide) lL lL lE lF ?_
     rw [hAr] at hSs hpu
     simp -dsimp(disch:=first|exact om|fail)only[go_sem,simprocAttr,xE,xN,xC,xP,xA,xZ,hAj,hpu,hSs.symm]
     refine ⟨j + 1,by omega,by omega, ?_⟩
     rw [hnx]
     exact StI.ren [some 0,some 1,some 2,some 3,some 10,some 5,some 6] [[],[],[],[],[],[],[]] lE (by decide) (by simp -dsimp(disch:=first|exact om|fail)only[go_sem,simprocAttr,xE,xN,xC,xP,xA,xZ,Nat.add_assoc]) lW
    ·rw [if_neg hw] at hAr
     rw [decide_eq_false hw] at p2
     simp -dsimp(disch:=first|exact om|fail)only[go_sem,simprocAttr,xE,xN,xC,xP,xA,xZ]
     refine callG' [0] p2 (by decide) lL lL lE lF ?_
     simp -dsimp(disch:=first|exact om|fail)only[go_sem,simprocAttr,xE,xN,xC,xP,xA,xZ,hAj,hpu,hSs.symm,hAr.symm]
     refine ⟨j + 1,by omega,by omega, ?_⟩
     rw [hnx]
     exact StI.ren [some 0,some 1,some 2,some 3,some 10,some 5,some 6] [[],[],[],[],[],[],[]] lE (by decide) (by simp -dsimp(disch:=first|exact om|fail)only[go_sem,simprocAttr,xE,xN,xC,xP,xA,xZ,Nat.add_assoc]) lW
   ·obtain rfl : n = j:=by omega
    have e1 : i * n + n = (i + 1) * n:=by rw [Nat.succ_mul]
    have hin : (i + 1) * n ≤ 3 * 5:=Nat.mul_le_mul (by omega) (by omega)
    have hSr:=hSr n (Nat.le_refl _)
    have hBp : oL i B ++ [B i] = oL (i + 1) B:=X0f.symm
    rw [← hAs,e1]
    rw [← hAs] at *
    generalize (W i).adv l (2 * n) = d at *
    have p1:=X2S l d hl hok8 8 (by omega)
    have p2:=Q2l l (d.nx l) hl hok8.nx 21 (by omega)
    have p2r:=CS.to_le (l:=l) (c:=d.nx l) (n:=21) (by omega)
    generalize d.to l 8 = w at *
    generalize (d.nx l).to l 21 = y at *
    by_cases hw : w = 0
    ·rw [if_pos hw] at hWs hBi
     rw [decide_eq_true hw] at p1
     simp -dsimp(disch:=first|exact om|fail)only[go_sem,simprocAttr,xE,xN,xC,xP,xA,xZ]
     refine callG' [0] p1 (by decide) lL lL lE lF ?_
     simp -dsimp(disch:=first|exact om|fail)only[go_sem,simprocAttr,xE,xN,xC,xP,xA,xZ]
     refine callG' [0] p2 (by decide) lL lL lE lF ?_
     simp -dsimp(disch:=first|exact om|fail)only[go_sem,simprocAttr,xE,xN,xC,xP,xA,xZ,hBi.symm,hBp]
     refine ⟨i + 1,by omega,by omega, ?_⟩
     rw [hWs]
     exact StI.ren [some 0,some 1,some 2,some 3,some 4,some 10,some 6] [[],[],[],[],[],[],[]] lE (by decide) lW lW
    ·rw [if_neg hw] at hWs hBi
     rw [decide_eq_false hw] at p1
     simp -dsimp(disch:=first|exact om|fail)only[go_sem,simprocAttr,xE,xN,xC,xP,xA,xZ]
     refine callG' [0] p1 (by decide) lL lL lE lF ?_
     simp -dsimp(disch:=first|exact om|fail)only[go_sem,simprocAttr,xE,xN,xC,xP,xA,xZ,hBi.symm,hBp]
     refine ⟨i + 1,by omega,by omega, ?_⟩
     rw [hWs]
     exact StI.ren [some 0,some 1,some 2,some 3,some 4,some 9,some 6] [[],[],[],[],[],[],[]] lE (by decide) lW lW
  ·obtain rfl : R = i:=by omega
   rw [hAl]
   simp -dsimp(disch:=first|exact om|fail)only[go_sem,simprocAttr,xE,xN,xC,xP,xA,xZ]
   exact RtG.nothing [some 0,some 4,some 5,some 6] lE (by decide) (by simp -dsimp(disch:=first|exact om|fail)only[go_sem,simprocAttr,xE,xN,xC,xP,xA,xZ,List.map_cons,List.map_nil]) lW
theorem rslI0 {H : List Ob} {js : List (Option Nat)} {bk : Bool} {id n : Nat} {ty : TypeId} {l : List Int} (h : H[id]? = some ⟨.frz,ty,iC l⟩) (hn : l.length = n) : Rn H js bk (.rsl id 1 0 n) (sI .s l) []:=by
 subst hn
 have e:=Rn.rslI (H:=H) (js:=js) (bk:=bk) (id:=id) (ty:=ty) (l:=l) h (Nat.le_refl _)
 rw [List.take_length] at e
 exact e
theorem Y0e (p : Prg) : RtG 0 (pH p) (pO p) (pV .s p) []:=by
 refine RtG.share 0 (cs':=iC p.a) rfl lW LeL.lits lW (RtG.share 1 (cs':=iC p.b) rfl lW LeL.lits lW (RtG.share 2 (cs':=iC p.c) rfl lW LeL.lits lW ?_))
 exact RtG.nothing [] trivial (by decide) lW (.agg _ _ _ _ _ (.cons _ _ _ _ _ _ [] [] (.same _ _ _ trivial (fun _=>trivial)) (.cons _ _ _ _ _ _ [] [] (.same _ _ _ trivial (fun _=>trivial)) (.cons _ _ _ _ _ _ [] [] (rslI0 rfl rfl) (.cons _ _ _ _ _ _ [] [] (rslI0 rfl rfl) (.cons _ _ _ _ _ _ [] [] (rslI0 rfl rfl) (.nil _ _)))))))
theorem X2n (l : List Int) (hl : l.length ≤ 1048576) : PC PP Q1b [byV .s l] (pV .s (drwP l (CS.new l))) []:=by
 have q1:=X8G l hl
 have q2:=X6X l (CS.new l) hl (CS.new_ok l)
 have e1 : (drwP l (CS.new l)).rows = dR l (CS.new l):=rfl
 have e2 : (drwP l (CS.new l)).cols = dN l (CS.new l):=rfl
 have e3 : (drwP l (CS.new l)).b.length = dR l (CS.new l):=Q1p
 have e4 : (drwP l (CS.new l)).c.length = dN l (CS.new l):=Q1p
 rw [← e3,← e4] at q2
 have q : GC PP Q1b [byV .s l] [] (pO (drwP l (CS.new l))) (pH (drwP l (CS.new l))):=by
  show GC PP Q1b [byV .s l] [] (.agg [I (drwP l (CS.new l)).rows,I (drwP l (CS.new l)).cols,.rsl 0 1 0 (drwP l (CS.new l)).a.length,.rsl 1 1 0 (drwP l (CS.new l)).b.length,.rsl 2 1 0 (drwP l (CS.new l)).c.length]) _
  rw [e1,e2]
  rw [e3,e4] at q2 ⊢
  generalize dR l (CS.new l) = R at *
  generalize dN l (CS.new l) = n at *
  generalize drwP l (CS.new l) = p at *
  generalize CS.new l = c at *
  generalize rowC l n (c.adv l (2 + 2 * n)) R = c' at *
  refine txg Q8m Q3o 0 [] [] [1] rfl (by kernel_rfl) ?_
  simp -dsimp(disch:=first|exact om|fail)only[go_sem,simprocAttr,xE,xN,xC,xP,xA,xZ]
  refine callG' [] q1 (by decide) lL lL lE lF ?_
  simp -dsimp(disch:=first|exact om|fail)only[go_sem,simprocAttr,xE,xN,xC,xP,xA,xZ]
  refine callG' [1] q2 (by decide) lL lL lE lF ?_
  simp -dsimp(disch:=first|exact om|fail)only[go_sem,simprocAttr,xE,xN,xC,xP,xA,xZ]
  exact RtG.nothing [some 3,some 4,some 5] lE (by decide) (by simp -dsimp(disch:=first|exact om|fail)only[go_sem,simprocAttr,xE,xN,xC,xP,xA,xZ,List.map_cons,List.map_nil]) lW
 exact (q.conv (Y0e _)).pc
theorem X7c {n : Nat} {o : Nat → Int} (h : ∀ j,j < n → -100 ≤ o j ∧ o j ≤ 100) : inB (-100) 100 (oL n o) = true:=by
 unfold inB
 rw [List.all_eq_true]
 intro x hx
 obtain ⟨j,hj,rfl⟩:=List.mem_map.1 hx
 exact decide_eq_true (h j (List.mem_range.1 hj))
theorem Y0t {a b : List Int} (h : inB (-100) 100 a = true) (g : inB (-100) 100 b = true) : inB (-100) 100 (a ++ b) = true:=by
 unfold inB at *
 rw [List.all_append,h,g]; rfl
theorem aL_in (l : List Int) (n : Nat) (c : CS) : ∀ i,inB (-100) 100 (aL l n c i) = true ∧ (aL l n c i).length = i * n
 | 0=>⟨rfl,by show 0 = 0 * n; omega⟩
 | i + 1=>by
  obtain ⟨h1,h2⟩:=aL_in l n c i
  refine ⟨Y0t h1 (X7c fun j _=>?_),by show (aL l n c i ++ oL n _).length = _; rw [List.length_append,h2,Q1p,Nat.succ_mul]⟩
  have:=X7R l ((rowC l n c i).adv l (2 * j))
  show -100 ≤ aD l _ ∧ aD l _ ≤ 100
  omega
theorem Y4L (l : List Int) {n : Nat} (hn : n ≤ 5) (c : CS) (x : Nat → Int) (hx : ∀ j,0 ≤ x j ∧ x j < 4) : -100 ≤ bR l n c x ∧ bR l n c x ≤ 100:=by
 unfold bR
 split
 ·have:=CS.to_le (l:=l) (c:=(rowE l n c).nx l) (n:=21) (by omega)
  omega
 ·have:=X3y (n:=n) (B:=15) (f:=fun k=>aR l c k * x k) (fun k _=>by
   have h1:=X7R l (c.adv l (2 * k))
   have h1 : -3 ≤ aR l c k ∧ aR l c k ≤ 5:=h1
   have h2:=hx k
   have h3 : x k = 0 ∨ x k = 1 ∨ x k = 2 ∨ x k = 3:=by omega
   rcases h3 with h3 | h3 | h3 | h3 <;> rw [h3] <;> omega)
  have hj5 : (n : Int) ≤ 5:=by omega
  have : (n : Int) * 15 ≤ 75:=by omega
  omega
theorem Y0I (l : List Int) (c : CS) : okP' (drwP l c) = true ∧ ∃ r n : Nat,(drwP l c).rows = r ∧ (drwP l c).cols = n ∧ 1 ≤ r ∧ r ≤ 3 ∧ 2 ≤ n ∧ n ≤ 5:=by
 have t1:=CS.to_le (l:=l) (c:=c) (n:=3) (by omega)
 have t2:=CS.to_le (l:=l) (c:=c.nx l) (n:=4) (by omega)
 have hR : 1 ≤ dR l c ∧ dR l c ≤ 3:=by unfold dR; omega
 have hN : 2 ≤ dN l c ∧ dN l c ≤ 5:=by unfold dN; omega
 refine ⟨?_,dR l c,dN l c,rfl,rfl,hR.1,hR.2,hN.1,hN.2⟩
 obtain ⟨a1,a2⟩:=aL_in l (dN l c) (c.adv l (2 + 2 * dN l c)) (dR l c)
 have hb : inB (-100) 100 (drwP l c).b = true:=X7c fun i _=>Y4L l hN.2 _ _ fun j=>CS.to_le (by omega)
 have hc : inB (-100) 100 (drwP l c).c = true:=X7c fun j _=>by
  have:=CS.to_le (l:=l) (c:=c.adv l (2 + 2 * j + 1)) (n:=9) (by omega)
  show -100 ≤ CS.to l _ 9 - 4 ∧ CS.to l _ 9 - 4 ≤ 100
  omega
 have hbl : (drwP l c).b.length = dR l c:=Q1p
 have hcl : (drwP l c).c.length = dN l c:=Q1p
 have hal : (drwP l c).a.length = dR l c * dN l c:=a2
 have hai : inB (-100) 100 (drwP l c).a = true:=a1
 have e1 : (drwP l c).rows = dR l c:=rfl
 have e2 : (drwP l c).cols = dN l c:=rfl
 unfold okP'
 rw [hal,hbl,hcl,hai,hb,hc,e1,e2,Int.natCast_mul]
 simp only [decide_true,Bool.true_and,Bool.and_true,Bool.and_self]
 rw [decide_eq_true (by omega),decide_eq_true (by omega)]; rfl
end Go.Proofs.Ytchlpclgkhggeaa