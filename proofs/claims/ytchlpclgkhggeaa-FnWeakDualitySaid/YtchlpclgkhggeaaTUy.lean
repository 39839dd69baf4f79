/- part of the proof -/
import Derived.Test.YtchlpclgkhggeaaTUw
namespace Go.Proofs.Ytchlpclgkhggeaa
open Go Go.RowKit
set_option maxRecDepth 100000
set_option maxHeartbeats 4000000
set_option linter.unusedVariables false
set_option linter.unusedSimpArgs false
theorem X6H (f g : Fl) (hf : f ≠ .u) (hg : g ≠ .u) (r s : RD) (hr : r.small) (hs : s.small) : PC PP X1R [rV f r,rV g s] (rV .s (qd ((rdq r).mul (rdq s)))) []:=by
 refine tx X7i Q9D [] (by kernel_rfl) ?_
 simp -dsimp(disch:=first|exact om|fail)only[go_sem,simprocAttr,xE,xN,xC,xP,xA,xZ]
 refine callB' (X0U f hf r hr) lB lF ?_
 simp -dsimp(disch:=first|exact om|fail)only[go_sem,simprocAttr,xE,xN,xC,xP,xA,xZ]
 refine callB' (X0U g hg s hs) lB lF ?_
 simp -dsimp(disch:=first|exact om|fail)only[go_sem,simprocAttr,xE,xN,xC,xP,xA,xZ]
 refine callP (mul_c .b .b flb flb (rdq r) (rdq s)) lL ?_
 simp -dsimp(disch:=first|exact om|fail)only[go_sem,simprocAttr,xE,xN,xC,xP,xA,xZ]
 refine callP (X8B .s fls ((rdq r).mul (rdq s))) lL ?_
 simp -dsimp(disch:=first|exact om|fail)only[go_sem,simprocAttr,xE,xN,xC,xP,xA,xZ]
theorem Q5S (n : Int) (hn : -9223372036854775807 ≤ n ∧ n ≤ 9223372036854775807) : PC PP Q6l [I n] (rV .s (qd (FQ.ofInt n))) []:=by
 refine tx X2C Q5b [] (by kernel_rfl) ?_
 simp -dsimp(disch:=first|exact om|fail)only[go_sem,simprocAttr,xE,xN,xC,xP,xA,xZ]
 refine callP (Q9Z n hn) lL ?_
 simp -dsimp(disch:=first|exact om|fail)only[go_sem,simprocAttr,xE,xN,xC,xP,xA,xZ]
 refine callP (X8B .s fls (FQ.ofInt n)) lL ?_
 simp -dsimp(disch:=first|exact om|fail)only[go_sem,simprocAttr,xE,xN,xC,xP,xA,xZ]
theorem Q9H (x : FQ) : PC PP Q9Y [rV .s (qd x)] (I (sgZ x.num)) []:=by
 have q:=X0U .s fls (qd x) (Q4M x)
 rw [Q9m] at q
 refine tx X5B Q8a [] (by kernel_rfl) ?_
 simp -dsimp(disch:=first|exact om|fail)only[go_sem,simprocAttr,xE,xN,xC,xP,xA,xZ]
 refine callB' q lB lF ?_
 cases hg : x.good
 ·have hn : x.num = 0:=by
   unfold FQ.good at hg; unfold FQ.num
   cases e : x.1 with
   | none=>rfl
   | some r=>rw [e] at hg; cases hg
  rw [hn,show sgZ 0 = 0 from rfl]
  simp -dsimp(disch:=first|exact om|fail)only[go_sem,simprocAttr,xE,xN,xC,xP,xA,xZ,hg]
 ·simp -dsimp(disch:=first|exact om|fail)only[go_sem,simprocAttr,xE,xN,xC,xP,xA,xZ,hg]
  refine callP (Y5V .b flb x hg) lL ?_
  simp -dsimp(disch:=first|exact om|fail)only[go_sem,simprocAttr,xE,xN,xC,xP,xA,xZ]
theorem X6A (p : Prg) (L : List RD) (r c : Nat) (ho : okP' p = true) (hr : p.rows = r) (hc : p.cols = c) (hl : L.length = r) (hs : smallL L) (hg : ∀ j,j < c → (wSum (colL p j) (L.map rdq)).good = true) :
  PC PP Q2w [pV .s p,sR .s L] (Bo (colsB p (L.map rdq) fun _=>0)) []:=by
 have hcl : ∀ j,(colL p j).length = r:=fun j=>by rw [Q0C]; omega
 have hcol : ∀ i j,i < r → (colL p j).getD i 0 = p.a.getD ((i : Int) * p.cols + j).toNat 0:=fun i j hi=>by
  unfold colL
  rw [List.getD_eq_getElem?_getD,List.getElem?_map,List.getElem?_range (by omega)]; rfl
 have hrg : ∀ i j,i < r → j < c → -100 ≤ (colL p j).getD i 0 ∧ (colL p j).getD i 0 ≤ 100:=fun i j hi hj=>X6r ho (by omega) i (by rw [hcl]; exact hi)
 obtain ⟨S,hS⟩ : ∃ S : Nat → Nat → FQ,∀ j k,S j k = sumQ (fun i=>(FQ.ofInt ((colL p j).getD i 0)).mul ((L.map rdq).getD i FQ.bad)) k:=⟨_,fun _ _=>rfl⟩
 have hSr : ∀ j,wSum (colL p j) (L.map rdq) = S j r:=fun j=>by unfold wSum; rw [hS,hcl]
 have hS0 : ∀ j,S j 0 = FQ.ofInt 0:=fun j=>by rw [hS]; rfl
 have hSs : ∀ j k,S j (k + 1) = (S j k).add ((FQ.ofInt ((colL p j).getD k 0)).mul ((L.map rdq).getD k FQ.bad)):=fun j k=>by rw [hS,hS]; rfl
 have hB : ∀ j,j < c → colB p (L.map rdq) (fun _=>0) j = !decide (sgZ (S j r).num < 0):=fun j hj=>by
  unfold colB
  rw [hg j hj,hSr,Bool.true_and]
  congr 1
  refine decide_eq_decide.2 ?_
  rw [Y4U,sg_lt]
 have hyes : (∀ j,j < c → colB p (L.map rdq) (fun _=>0) j = true) → colsB p (L.map rdq) (fun _=>0) = true:=fun h=>by
  unfold colsB
  rw [List.all_eq_true]
  intro j hj
  exact h j (by have:=List.mem_range.1 hj; omega)
 have hno : ∀ j,j < c → colB p (L.map rdq) (fun _=>0) j = false → colsB p (L.map rdq) (fun _=>0) = false:=fun j hj h=>X8K (by omega) h
 generalize colsB p (L.map rdq) (fun _=>0) = R at *
 generalize colB p (L.map rdq) (fun _=>0) = B at *
 have hget : ∀ i,i < r → rdq (L.getD i RD.zero) = (L.map rdq).getD i FQ.bad:=fun i hi=>by
  rw [List.getD_eq_getElem?_getD,List.getD_eq_getElem?_getD,List.getElem?_map,List.getElem?_eq_getElem (by omega)]; rfl
 have hsm : ∀ i,i < r → (L.getD i RD.zero).small:=fun i hi=>by
  rw [List.getD_eq_getElem?_getD,List.getElem?_eq_getElem (by omega)]; exact hs.2 _ (List.getElem_mem _)
 obtain ⟨⟨r1,r2⟩,⟨c1,c2⟩,hal,_⟩:=Q0l ho
 clear hS hSr hg hcl
 generalize colL p = C at *
 obtain ⟨pr,pc,la,lb,lc⟩:=p
 simp only at hr hc r1 r2 c1 c2 hal hcol
 subst hr hc
 refine tx X1E Q4f [] (by kernel_rfl) ?_
 simp -dsimp(disch:=first|exact om|fail)only[go_sem,simprocAttr,xE,xN,xC,xP,xA,xZ,pC]
 refine loopJ (fun j : Nat=>j ≤ c ∧ ∀ i,i < j → B i = true) (fun j=>⟨[(1,sR .s L),(2,.ref 0 0),(5,I j)],[⟨.own,Q0c,[I r,I c,sI .s la,sI .s lb,sI .s lc]⟩]⟩) (fun j=>c - j) 0 ⟨by omega,fun i hi=>absurd hi (by omega)⟩ ?_ ?_
 ·refine StI.ren [some 0] [[]] lE (by decide) lW lW
 rintro j ⟨hj,hjB⟩
 by_cases h : j < c
 ·simp -dsimp(disch:=first|exact om|fail)only[go_sem,simprocAttr,xE,xN,xC,xP,xA,xZ,h]
  refine callP (Q5S 0 (by omega)) lL ?_
  simp -dsimp(disch:=first|exact om|fail)only[go_sem,simprocAttr,xE,xN,xC,xP,xA,xZ]
  refine loopJ (fun i : Nat=>i ≤ r) (fun i=>⟨[(1,sR .s L),(2,.ref 0 0),(5,I j),(6,.ref 1 0),(7,I i)],[⟨.own,Q0c,[I r,I c,sI .s la,sI .s lb,sI .s lc]⟩,⟨.own,Q1k,rdC .s (qd (S j i))⟩]⟩) (fun i=>r - i) 0 (by omega) ?_ ?_
  ·rw [hS0]
   refine StI.ren [some 0,some 1] [[],[]] lE (by decide) lW lW
  intro i hi
  by_cases h2 : i < r
  ·obtain ⟨x1,x2,x3⟩:=Y0k (i:=i) (j:=j) (r:=r) (c:=c) (by omega) (by omega) (by omega) (by omega) (by omega)
   have hv:=hrg i j h2 h
   have hSn:=hSs j i
   rw [hcol i j h2] at hv hSn
   simp -dsimp(disch:=first|exact om|fail)only[go_sem,simprocAttr,xE,xN,xC,xP,xA,xZ,h2,hl]
   refine callP (Q5S (la.getD ((i : Int) * c + j).toNat 0) (by omega)) lL ?_
   have q2:=X6H .s .s fls fls (qd (FQ.ofInt (la.getD ((i : Int) * c + j).toNat 0))) (L.getD i RD.zero) (Q4M _) (hsm i h2)
   rw [Q9m,hget i h2] at q2
   have q3:=X6J .s .s fls fls (qd (S j i)) (qd ((FQ.ofInt (la.getD ((i : Int) * c + j).toNat 0)).mul ((L.map rdq).getD i FQ.bad))) (Q4M _) (Q4M _)
   rw [Q9m,Q9m,← hSn] at q3
   simp -dsimp(disch:=first|exact om|fail)only[go_sem,simprocAttr,xE,xN,xC,xP,xA,xZ]
   refine callP q2 lL ?_
   simp -dsimp(disch:=first|exact om|fail)only[go_sem,simprocAttr,xE,xN,xC,xP,xA,xZ]
   refine callP q3 lL ?_
   simp -dsimp(disch:=first|exact om|fail)only[go_sem,simprocAttr,xE,xN,xC,xP,xA,xZ]
   exact ⟨i + 1,by omega,by omega,StI.ren [some 0,some 1] [[],[]] lE (by decide) lW lW⟩
  ·obtain rfl : i = r:=by omega
   have q4:=Q9H (S j i)
   simp -dsimp(disch:=first|exact om|fail)only[go_sem,simprocAttr,xE,xN,xC,xP,xA,xZ]
   refine callP q4 lL ?_
   simp -dsimp(disch:=first|exact om|fail)only[go_sem,simprocAttr,xE,xN,xC,xP,xA,xZ]
   refine ⟨fun q=>?_,fun q=>?_⟩
   ·exact (hno j h (by rw [hB j h,decide_eq_true q]; rfl)).symm
   ·refine ⟨j + 1,⟨by omega,fun k hk=>?_⟩,by omega,StI.ren [some 0] [[]] lE (by decide) lW lW⟩
    by_cases e : k = j
    ·subst e; rw [hB k h,decide_eq_false q]; rfl
    ·exact hjB k (by omega)
 ·obtain rfl : j = c:=by omega
  rw [hyes hjB]
  simp -dsimp(disch:=first|exact om|fail)only[go_sem,simprocAttr,xE,xN,xC,xP,xA,xZ]
theorem X1g (p : Prg) (hp : p.small) : PC PP Q2y [pV .s p] (pV .s (dualP p)) []:=((Q5d .s fls p hp).conv (Y2j _)).pc
theorem Q8Z (p : Prg) (hp : p.small) : PC PP Q1H [pV .s p] (pV .s (farkasP p)) []:=((Q3F .s fls p hp).conv (Y2j _)).pc
theorem X4q (p : Prg) (hp : p.small) : PC PP Q4F [pV .s p,I 0] (sI .s (colO p 0)) []:=((X4r .s fls p 0 hp (by omega)).conv (RtG.share 0 (cs':=iC (colO p 0)) rfl lW LeL.lits lW (RtG.nothing [] trivial (by decide) lW (rslI0 rfl rfl)))).pc
theorem Y0J (l : List Int) (c : CS) : (feaP l c).small ∧ smallL ((feaX l c).map qd) ∧ certF (feaP l c) (farkasP (feaP l c)) = noV ∧
  ((certF (feaP l c) (dualP (feaP l c)) = noV ∧ solP (feaP l c) = ⟨3,[],RD.zero⟩) ∨
   ∃ Y,certF (feaP l c) (dualP (feaP l c)) = (Y,true) ∧ Y.length ≤ 1000 ∧ dualB (feaP l c) (Y.map qd) = true ∧ (bndQ (feaP l c) (Y.map qd)).good = true ∧ (objQ (feaP l c) ((feaX l c).map qd)).good = true ∧
    (objQ (feaP l c) ((feaX l c).map qd)).cmp (bndQ (feaP l c) (Y.map qd)) ≤ 0 ∧ PC PP Q2w [pV .s (feaP l c),sR .s (Y.map qd)] (Bo (colsB (feaP l c) ((Y.map qd).map rdq) fun _=>0)) []) ∧
  (dualP (feaP l c)).cols = (farkasP (feaP l c)).cols ∧ (farkasP (feaP l c)).rows = (dualP (feaP l c)).rows + 1 ∧ ((colO (feaP l c) 0).length : Int) = (feaP l c).rows ∧ 0 ≤ (dualP (feaP l c)).rows ∧ (dualP (feaP l c)).rows ≤ 100:=by
 obtain ⟨ho,⟨r,n,hr,hc,r1,r3,n2,n5,hdn⟩,hx,hfx⟩:=Y6V l c
 have hXl : (feaX l c).length = n:=by unfold feaX; rw [Q0f,hdn]
 have hX : (feaX l c) = rowQ n fun j=>FQ.ofInt (xD l c j):=by unfold feaX; rw [hdn]
 generalize feaP l c = p at *
 have hd:=PD.mk' ho hr hc
 have hft : fitsP p = true:=by unfold fitsP; rw [ho,decide_eq_true (by omega),decide_eq_true (by omega)]; rfl
 have hv : VL ((feaX l c).map qd) n (fun j=>((xD l c j : Int) : Rat)) 3:=by
  rw [hX]
  exact VL.of fun j _=>FV.ofInt (by have:=hx j; show _ ≤ 8; omega) (by omega)
 have hn5 : n * (3 + 8) ≤ 5 * 11:=Nat.mul_le_mul n5 (by omega)
 have hob:=Y4z hd ho hc hv (by omega)
 have hsm : smallL ((feaX l c).map qd):=(X0H (by rw [hXl]; omega)).1
 have hK2 : r * (109 + 8) ≤ 3 * 117:=Nat.mul_le_mul r3 (by omega)
 refine ⟨X4f ho,hsm,Y6X hd ho hr hc r3 n5 ⟨_,hfx⟩, ?_, ?_, ?_, ?_, ?_⟩
 ·rcases Y5T ho with ⟨X,hb,e⟩ | ⟨h1,h2,e⟩ | ⟨h0,e⟩
  ·obtain ⟨g,v,e2,hy,hdu,hby⟩:=Y4S hd ho hr hc r3 n5 hb
   have hbn:=Y5a hd ho hr hy (by omega)
   refine .inr ⟨_,e2,by rw [Q0f]; omega,Y3i hd ho hr hc hy (by omega) hdu,hbn.good,hob.good,Y6W hob hbn ?_, ?_⟩
   ·rw [hby]; exact hb.max hfx
   ·refine X6A p _ r n ho hr hc (by rw [List.length_map,Q0f]) (X0H (by rw [Q0f]; omega)).1 fun j hj=>?_
    have hl : (colL p j).length = r:=by rw [Q0C]; omega
    exact (X3x (l:=colL p j) (x:=((rowQ r g).map qd).map rdq) (v:=v) (k:=109) (fun i hi=>X6r ho (by omega) i hi) (fun i hi=>hy.val i (by omega)) (by rw [hl]; omega)).good
  ·exact .inl ⟨Y7b hd ho hr hc r3 n5 h1 h2,e⟩
  ·exact absurd ⟨_,hfx⟩ h0
 ·rw [show dualP p = _ from if_pos hft,show farkasP p = _ from if_pos hft]
 ·rw [show dualP p = _ from if_pos hft,show farkasP p = _ from if_pos hft]
 ·unfold colO
  rw [if_pos ⟨ho,by omega,by omega⟩,Q0C]; omega
 ·rw [show dualP p = _ from if_pos hft]
  show 0 ≤ p.cols ∧ p.cols ≤ 100
  omega
theorem X5a (l : List Int) : PC PP Q0s [byV .s l] (Bo true) []:=by
 by_cases hl : l.length ≤ 1048576
 ·have q1:=X5E l hl
  obtain ⟨hp,hX,hno,hy,h1,h2,h3,h4⟩:=Y0J l (CS.new l)
  generalize (feaX l (CS.new l)).map qd = X at *
  generalize feaP l (CS.new l) = p at *
  have q2:=X4o p hp
  have q3:=X6L p hp
  rw [hno] at q2
  have hn : ¬ (l.length : Int) > 1048576:=by omega
  rcases hy with ⟨e1,e2⟩ | ⟨Y,e1,y1,y2,y3,y4,y5,q11⟩
  ·have q4:=Q4n .s fls p hp
   rw [e1] at q3
   rw [e2] at q4
   simp only [reV,reC] at q4
   refine tx Q1F Q0O [] (by kernel_rfl) ?_
   simp -dsimp(disch:=first|exact om|fail)only[go_sem,simprocAttr,xE,xN,xC,xP,xA,xZ,hn]
   refine callP q1 lL ?_
   simp -dsimp(disch:=first|exact om|fail)only[go_sem,simprocAttr,xE,xN,xC,xP,xA,xZ,pC]
   refine callP q2 (by simp -dsimp(disch:=first|exact om|fail)only[go_sem,simprocAttr,xE,xN,xC,xP,xA,xZ,pC]) ?_
   simp -dsimp(disch:=first|exact om|fail)only[go_sem,simprocAttr,xE,xN,xC,xP,xA,xZ,pC]
   refine callP q3 (by simp -dsimp(disch:=first|exact om|fail)only[go_sem,simprocAttr,xE,xN,xC,xP,xA,xZ,pC]) ?_
   simp -dsimp(disch:=first|exact om|fail)only[go_sem,simprocAttr,xE,xN,xC,xP,xA,xZ,pC]
   refine callP q4 (by simp -dsimp(disch:=first|exact om|fail)only[go_sem,simprocAttr,xE,xN,xC,xP,xA,xZ,pC]) ?_
   simp -dsimp(disch:=first|exact om|fail)only[go_sem,simprocAttr,xE,xN,xC,xP,xA,xZ,pC]
  ·have hys:=(X0H (l:=Y) y1).1
   have q4:=X5j p _ hp hys
   have q5:=X1e p _ hp hX
   have q6:=X1g p hp
   have q7:=Q8Z p hp
   have q8:=X6K .s .s fls fls p _ hp hys
   have q9:=X4n .s .s fls fls p _ hp hys
   have q10:=Q9H (bndQ p (Y.map qd))
   have q12:=X6I _ _ y4 y3
   have q13:=X4q p hp
   have hF : farkB p (Y.map qd) = (decide (sgZ (bndQ p (Y.map qd)).num < 0) && colsB p ((Y.map qd).map rdq) fun _=>0):=by
    unfold farkB
    rw [y3,Bool.true_and]
    congr 1
    exact decide_eq_decide.2 sg_lt.symm
   rw [e1] at q3
   rw [y2] at q8
   rw [hF] at q9
   generalize colsB p ((Y.map qd).map rdq) (fun _=>0) = N at *
   generalize bndQ p (Y.map qd) = b at *
   generalize objQ p X = v at *
   generalize dualP p = dp at *
   generalize farkasP p = fp at *
   generalize colO p 0 = co at *
   refine tx Q1F Q0O [] (by kernel_rfl) ?_
   simp -dsimp(disch:=first|exact om|fail)only[go_sem,simprocAttr,xE,xN,xC,xP,xA,xZ,hn]
   refine callP q1 lL ?_
   simp -dsimp(disch:=first|exact om|fail)only[go_sem,simprocAttr,xE,xN,xC,xP,xA,xZ,pC]
   refine callP q2 (by simp -dsimp(disch:=first|exact om|fail)only[go_sem,simprocAttr,xE,xN,xC,xP,xA,xZ,pC]) ?_
   simp -dsimp(disch:=first|exact om|fail)only[go_sem,simprocAttr,xE,xN,xC,xP,xA,xZ,pC]
   refine callP q3 (by simp -dsimp(disch:=first|exact om|fail)only[go_sem,simprocAttr,xE,xN,xC,xP,xA,xZ,pC]) ?_
   simp -dsimp(disch:=first|exact om|fail)only[go_sem,simprocAttr,xE,xN,xC,xP,xA,xZ,pC]
   refine callP q4 (by simp -dsimp(disch:=first|exact om|fail)only[go_sem,simprocAttr,xE,xN,xC,xP,xA,xZ,pC]) ?_
   simp -dsimp(disch:=first|exact om|fail)only[go_sem,simprocAttr,xE,xN,xC,xP,xA,xZ,pC]
   refine callP q5 (by simp -dsimp(disch:=first|exact om|fail)only[go_sem,simprocAttr,xE,xN,xC,xP,xA,xZ,pC]) ?_
   simp -dsimp(disch:=first|exact om|fail)only[go_sem,simprocAttr,xE,xN,xC,xP,xA,xZ,pC]
   refine callP q6 (by simp -dsimp(disch:=first|exact om|fail)only[go_sem,simprocAttr,xE,xN,xC,xP,xA,xZ,pC]) ?_
   simp -dsimp(disch:=first|exact om|fail)only[go_sem,simprocAttr,xE,xN,xC,xP,xA,xZ,pC]
   refine callP q7 (by simp -dsimp(disch:=first|exact om|fail)only[go_sem,simprocAttr,xE,xN,xC,xP,xA,xZ,pC]) ?_
   simp -dsimp(disch:=first|exact om|fail)only[go_sem,simprocAttr,xE,xN,xC,xP,xA,xZ,pC]
   refine callP q8 (by simp -dsimp(disch:=first|exact om|fail)only[go_sem,simprocAttr,xE,xN,xC,xP,xA,xZ,pC]) ?_
   simp -dsimp(disch:=first|exact om|fail)only[go_sem,simprocAttr,xE,xN,xC,xP,xA,xZ,pC]
   refine callP q9 (by simp -dsimp(disch:=first|exact om|fail)only[go_sem,simprocAttr,xE,xN,xC,xP,xA,xZ,pC]) ?_
   simp -dsimp(disch:=first|exact om|fail)only[go_sem,simprocAttr,xE,xN,xC,xP,xA,xZ,pC]
   refine callP q10 lL ?_
   have hw : IntKind.i64.wrap (dp.rows + 1) = dp.rows + 1:=w64 (by omega)
   by_cases hb : sgZ b.num < 0
   ·have hb2 : ¬ 0 ≤ sgZ b.num:=by omega
    rw [decide_eq_true hb,Bool.true_and] at *
    simp -dsimp(disch:=first|exact om|fail)only[go_sem,simprocAttr,xE,xN,xC,xP,xA,xZ,hb,hb2,pC]
    refine callP q11 (by simp -dsimp(disch:=first|exact om|fail)only[go_sem,simprocAttr,xE,xN,xC,xP,xA,xZ,pC]) ?_
    simp -dsimp (maxSteps:=2000000) (disch:=first | exact om | fail) only [go_sem,simprocAttr,xE,xN,xC,xP,xA,xZ,hb,hb2,pC,y3,y4,beq_self_eq_true]
    refine callP q12 lL ?_
    simp -dsimp (maxSteps:=2000000) (disch:=first | exact om | fail) only [go_sem,simprocAttr,xE,xN,xC,xP,xA,xZ,pC,y5,h1,h2,hw]
    refine callP q13 (by simp -dsimp(disch:=first|exact om|fail)only[go_sem,simprocAttr,xE,xN,xC,xP,xA,xZ,pC]) ?_
    simp -dsimp(disch:=first|exact om|fail)only[go_sem,simprocAttr,xE,xN,xC,xP,xA,xZ,pC,h3]
   ·have hb2 : 0 ≤ sgZ b.num:=by omega
    simp -dsimp (maxSteps:=2000000) (disch:=first | exact om | fail) only [go_sem,simprocAttr,xE,xN,xC,xP,xA,xZ,hb,hb2,pC,y3,y4,beq_self_eq_true]
    refine callP q12 lL ?_
    simp -dsimp (maxSteps:=2000000) (disch:=first | exact om | fail) only [go_sem,simprocAttr,xE,xN,xC,xP,xA,xZ,pC,y5,h1,h2,hw]
    refine callP q13 (by simp -dsimp(disch:=first|exact om|fail)only[go_sem,simprocAttr,xE,xN,xC,xP,xA,xZ,pC]) ?_
    simp -dsimp(disch:=first|exact om|fail)only[go_sem,simprocAttr,xE,xN,xC,xP,xA,xZ,pC,h3]
 ·have hn : (l.length : Int) > 1048576:=by omega
  refine tx Q1F Q0O [] (by kernel_rfl) ?_
  simp -dsimp(disch:=first|exact om|fail)only[go_sem,simprocAttr,xE,xN,xC,xP,xA,xZ,hn]
theorem X5b (f : Fl) (hf : f ≠ .u) (l : List Int) (hl : l.length ≤ 9223372036854775807) : PC PP Q0s [byV f l] (Bo true) []:=Y7r (X5a l) f hf
end Go.Proofs.Ytchlpclgkhggeaa