/- part of the proof -/
import Derived.Test.YtchlpclgkhggeaaTDu
import Derived.Test.YtchlpclgkhggeaaTLa2
import Derived.Test.YtchlpclgkhggeaaTIa
import Derived.Test.YtchlpclgkhggeaaTTa
namespace Go.Proofs.Ytchlpclgkhggeaa
open Go Go.RowKit
set_option maxRecDepth 100000
set_option maxHeartbeats 4000000
set_option linter.unusedVariables false
set_option linter.unusedSimpArgs false
theorem Q6v {l : List Int} (h : inB (-100) 100 l = true) {i : Nat} (hi : i < l.length) : -100 ≤ l.getD i 0 ∧ l.getD i 0 ≤ 100:=by
 unfold inB at h
 rw [List.all_eq_true] at h
 rw [List.getD_eq_getElem?_getD,List.getElem?_eq_getElem hi,Option.getD_some]
 have:=h _ (List.getElem_mem hi)
 simpa using this
def sml (l : List Int) : Prop:=∀ i,i < l.length → -100 ≤ l.getD i 0 ∧ l.getD i 0 ≤ 100
theorem X8C {l : List Int} (h : inB (-100) 100 l = true) : sml l:=fun i hi=>Q6v h hi
theorem X6r {p : Prg} {j : Nat} (ho : okP' p = true) (hj : (j : Int) < p.cols) : sml (colL p j):=by
 obtain ⟨⟨r1,r2⟩,⟨c1,c2⟩,hal,_,_,ha,_⟩:=Q0l ho
 intro i hi
 rw [Q0C] at hi
 obtain ⟨q1,q2,q3⟩:=Y0k (i:=i) (j:=j) (r:=p.rows) (c:=p.cols) (by omega) r2 c1 c2 (by omega)
 have : (colL p j).getD i 0 = p.a.getD ((i : Int) * p.cols + j).toNat 0:=by simp [colL,hi]
 rw [this]
 exact Q6v ha (by omega)
noncomputable def wSum (l : List Int) (x : List FQ) : FQ:=sumQ (fun i=>(FQ.ofInt (l.getD i 0)).mul (x.getD i FQ.bad)) l.length
def validX (p : Prg) (l : List RD) (n : Int) : Bool:=okP' p && decide ((l.length : Int) = n) && l.all RD.ok
noncomputable def objQ (p : Prg) (l : List RD) : FQ:=if validX p l p.cols = true then wSum p.c (l.map rdq) else FQ.bad
noncomputable def bndQ (p : Prg) (l : List RD) : FQ:=if validX p l p.rows = true then wSum p.b (l.map rdq) else FQ.bad
theorem Q8I (f g p : Fl) (hf : f ≠ .u) (hg : g ≠ .u) (hp : p ≠ .u) (l : List Int) (x : List FQ) (e : l.length = x.length) (hl : x.length ≤ 1000) (hs : sml l) :
  PC PP Q4A [sI f l,sQ g p x] (pQ .s (wSum l x)) []:=by
 have hst : ∀ k,sumQ (fun i=>(FQ.ofInt (l.getD i 0)).mul (x.getD i FQ.bad)) (k + 1) = (sumQ (fun i=>(FQ.ofInt (l.getD i 0)).mul (x.getD i FQ.bad)) k).add ((FQ.ofInt (l.getD k 0)).mul (x.getD k FQ.bad)):=fun _=>rfl
 have hfin : wSum l x = sumQ (fun i=>(FQ.ofInt (l.getD i 0)).mul (x.getD i FQ.bad)) l.length:=rfl
 have h0 : sumQ (fun i=>(FQ.ofInt (l.getD i 0)).mul (x.getD i FQ.bad)) 0 = FQ.ofInt 0:=rfl
 rw [hfin]
 clear hfin
 generalize sumQ (fun i=>(FQ.ofInt (l.getD i 0)).mul (x.getD i FQ.bad)) = s at *
 refine tx X4S Q6Y [] (by kernel_rfl) ?_
 simp -dsimp(disch:=first|exact om|fail)only[go_sem,simprocAttr,xE,xN,xC,xP,xA,xZ]
 refine callP (Q9Z 0 (by omega)) lL ?_
 rw [← h0]
 simp -dsimp(disch:=first|exact om|fail)only[go_sem,simprocAttr,xE,xN,xC,xP,xA,xZ]
 refine loopI (fun k : Nat=>k ≤ l.length) (fun k=>⟨[(1,sQ g p x),(5,pQ .s (s k)),(9,sI f l),(10,I l.length),(11,I k)],[]⟩) (fun k=>l.length - k) 0 (by omega) ?_ ?_
 ·simp -dsimp(disch:=first|exact om|fail)only[go_sem,simprocAttr,xE,xN,xC,xP,xA,xZ]
 intro k hk
 by_cases h : k < l.length
 ·obtain ⟨b1,b2⟩:=hs k h
  simp -dsimp(disch:=first|exact om|fail)only[go_sem,simprocAttr,xE,xN,xC,xP,xA,xZ]
  refine callP (Q9Z (l.getD k 0) (by omega)) lL ?_
  simp -dsimp(disch:=first|exact om|fail)only[go_sem,simprocAttr,xE,xN,xC,xP,xA,xZ]
  refine callP (mul_c .s p fls hp (FQ.ofInt (l.getD k 0)) (x.getD k FQ.bad)) lL ?_
  simp -dsimp(disch:=first|exact om|fail)only[go_sem,simprocAttr,xE,xN,xC,xP,xA,xZ]
  refine callP (add_c .s .s fls fls (s k) ((FQ.ofInt (l.getD k 0)).mul (x.getD k FQ.bad))) lL ?_
  rw [← hst k]
  simp -dsimp(disch:=first|exact om|fail)only[go_sem,simprocAttr,xE,xN,xC,xP,xA,xZ]
  exact ⟨k + 1,by omega,by omega,of_eq_true vk_pQ,by omega⟩
 ·obtain rfl : k = l.length:=by omega
  simp -dsimp(disch:=first|exact om|fail)only[go_sem,simprocAttr,xE,xN,xC,xP,xA,xZ]
theorem Q8V (f : Fl) (hf : f ≠ .u) (l : List RD) (n : Int) (hl : smallL l) (hn : (l.length : Int) = n) (ha : l.all RD.ok = true) : PB PP Q5B [sR f l,I n] (.tup [.rsl 0 1 0 l.length,Bo true]) [⟨.own,Q0z,qs .b (l.map rdq)⟩]:=by
 have h1:=hl.1
 refine txb Q9S Q4i [] [] [] (by kernel_rfl) ?_
 simp -dsimp(disch:=first|exact om|fail)only[go_sem,simprocAttr,xE,xN,xC,xP,xA,xZ]
 refine callB' (Y0h f hf l hl ha) lB lF ?_
 simp -dsimp(disch:=first|exact om|fail)only[go_sem,simprocAttr,xE,xN,xC,xP,xA,xZ]
 exact RtB.nothing [some 0] (by decide) lW lW
theorem Q8W (f : Fl) (hf : f ≠ .u) (l : List RD) (n : Int) (hl : smallL l) (hn : ¬ ((l.length : Int) = n ∧ l.all RD.ok = true)) : PB PP Q5B [sR f l,I n] (.tup [.emp,Bo false]) []:=by
 have h1:=hl.1
 refine txb Q9S Q4i [] [] [] (by kernel_rfl) ?_
 by_cases h : (l.length : Int) = n
 ·have ha : l.all RD.ok = false:=by
   cases e : l.all RD.ok with
   | false=>rfl
   | true=>exact absurd ⟨h,e⟩ hn
  simp -dsimp(disch:=first|exact om|fail)only[go_sem,simprocAttr,xE,xN,xC,xP,xA,xZ]
  refine callB' (Y4E f hf l hl ha) lB lF ?_
  simp -dsimp(disch:=first|exact om|fail)only[go_sem,simprocAttr,xE,xN,xC,xP,xA,xZ]
  exact RtB.nothing [] (by decide) trivial lW
 ·simp -dsimp(disch:=first|exact om|fail)only[go_sem,simprocAttr,xE,xN,xC,xP,xA,xZ]
  exact RtB.nothing [] (by decide) trivial lW
theorem X1f (f g : Fl) (hf : f ≠ .u) (hg : g ≠ .u) (p : Prg) (l : List RD) (hp : p.small) (hl : smallL l) : GC PP Q2x [pV f p,sR g l] [] (toO (objQ p l)) (rH (qd (objQ p l))):=by
 have h1:=hl.1
 unfold objQ
 refine txg X1I Q4k 0 [] [] [] rfl (by kernel_rfl) ?_
 have hP:=Q0B f hf p hp
 cases ho : okP' p
 ·rw [ho] at hP
  rw [if_neg (by unfold validX; rw [ho]; simp)]
  simp -dsimp(disch:=first|exact om|fail)only[go_sem,simprocAttr,xE,xN,xC,xP,xA,xZ,pC]
  refine callP hP (by simp -dsimp(disch:=first|exact om|fail)only[go_sem,simprocAttr,xE,xN,xC,xP,xA,xZ,pC]) ?_
  simp -dsimp(disch:=first|exact om|fail)only[go_sem,simprocAttr,xE,xN,xC,xP,xA,xZ]
  exact X3V
 ·rw [ho] at hP
  obtain ⟨⟨r1,r2⟩,⟨c1,c2⟩,hal,hbl,hcl,ia,ib,ic⟩:=Q0l ho
  by_cases h2 : (l.length : Int) = p.cols ∧ l.all RD.ok = true
  ·obtain ⟨h2,ha⟩:=h2
   rw [if_pos (by unfold validX; rw [ho,ha]; simp [h2])]
   have hlx : (l.map rdq).length = l.length:=List.length_map _
   have q:=Q8I f .b .b hf flb flb p.c (l.map rdq) (by omega) (by omega) (X8C ic)
   have q2:=Q8V g hg l p.cols hl h2 ha
   generalize wSum p.c (l.map rdq) = T at *
   generalize l.map rdq = x at *
   simp -dsimp(disch:=first|exact om|fail)only[go_sem,simprocAttr,xE,xN,xC,xP,xA,xZ,pC]
   refine callP hP (by simp -dsimp(disch:=first|exact om|fail)only[go_sem,simprocAttr,xE,xN,xC,xP,xA,xZ,pC]) ?_
   simp -dsimp(disch:=first|exact om|fail)only[go_sem,simprocAttr,xE,xN,xC,xP,xA,xZ]
   refine callB' q2 lB lF ?_
   simp -dsimp(disch:=first|exact om|fail)only[go_sem,simprocAttr,xE,xN,xC,xP,xA,xZ]
   refine callP q lW ?_
   simp -dsimp(disch:=first|exact om|fail)only[go_sem,simprocAttr,xE,xN,xC,xP,xA,xZ]
   refine callO' (Y5j .s fls T) lL lF ?_
   simp -dsimp(disch:=first|exact om|fail)only[go_sem,simprocAttr,xE,xN,xC,xP,xA,xZ]
   exact RtG.nothing [some 3,some 4] lE (by decide) lS lE
  ·rw [if_neg (by intro hv; unfold validX at hv; rw [ho] at hv; simp only [Bool.and_eq_true,decide_eq_true_eq] at hv; exact h2 ⟨hv.1.2,hv.2⟩)]
   simp -dsimp(disch:=first|exact om|fail)only[go_sem,simprocAttr,xE,xN,xC,xP,xA,xZ,pC]
   refine callP hP (by simp -dsimp(disch:=first|exact om|fail)only[go_sem,simprocAttr,xE,xN,xC,xP,xA,xZ,pC]) ?_
   simp -dsimp(disch:=first|exact om|fail)only[go_sem,simprocAttr,xE,xN,xC,xP,xA,xZ]
   refine callB' (Q8W g hg l p.cols hl h2) lB lF ?_
   simp -dsimp(disch:=first|exact om|fail)only[go_sem,simprocAttr,xE,xN,xC,xP,xA,xZ]
   exact X3V
theorem X5k (f g : Fl) (hf : f ≠ .u) (hg : g ≠ .u) (p : Prg) (l : List RD) (hp : p.small) (hl : smallL l) : GC PP Q5D [pV f p,sR g l] [] (toO (bndQ p l)) (rH (qd (bndQ p l))):=by
 have h1:=hl.1
 unfold bndQ
 refine txg X5D Q8c 0 [] [] [] rfl (by kernel_rfl) ?_
 have hP:=Q0B f hf p hp
 cases ho : okP' p
 ·rw [ho] at hP
  rw [if_neg (by unfold validX; rw [ho]; simp)]
  simp -dsimp(disch:=first|exact om|fail)only[go_sem,simprocAttr,xE,xN,xC,xP,xA,xZ,pC]
  refine callP hP (by simp -dsimp(disch:=first|exact om|fail)only[go_sem,simprocAttr,xE,xN,xC,xP,xA,xZ,pC]) ?_
  simp -dsimp(disch:=first|exact om|fail)only[go_sem,simprocAttr,xE,xN,xC,xP,xA,xZ]
  exact X3V
 ·rw [ho] at hP
  obtain ⟨⟨r1,r2⟩,⟨c1,c2⟩,hal,hbl,hcl,ia,ib,ic⟩:=Q0l ho
  by_cases h2 : (l.length : Int) = p.rows ∧ l.all RD.ok = true
  ·obtain ⟨h2,ha⟩:=h2
   rw [if_pos (by unfold validX; rw [ho,ha]; simp [h2])]
   have hlx : (l.map rdq).length = l.length:=List.length_map _
   have q:=Q8I f .b .b hf flb flb p.b (l.map rdq) (by omega) (by omega) (X8C ib)
   have q2:=Q8V g hg l p.rows hl h2 ha
   generalize wSum p.b (l.map rdq) = T at *
   generalize l.map rdq = x at *
   simp -dsimp(disch:=first|exact om|fail)only[go_sem,simprocAttr,xE,xN,xC,xP,xA,xZ,pC]
   refine callP hP (by simp -dsimp(disch:=first|exact om|fail)only[go_sem,simprocAttr,xE,xN,xC,xP,xA,xZ,pC]) ?_
   simp -dsimp(disch:=first|exact om|fail)only[go_sem,simprocAttr,xE,xN,xC,xP,xA,xZ]
   refine callB' q2 lB lF ?_
   simp -dsimp(disch:=first|exact om|fail)only[go_sem,simprocAttr,xE,xN,xC,xP,xA,xZ]
   refine callP q lW ?_
   simp -dsimp(disch:=first|exact om|fail)only[go_sem,simprocAttr,xE,xN,xC,xP,xA,xZ]
   refine callO' (Y5j .s fls T) lL lF ?_
   simp -dsimp(disch:=first|exact om|fail)only[go_sem,simprocAttr,xE,xN,xC,xP,xA,xZ]
   exact RtG.nothing [some 3,some 4] lE (by decide) lS lE
  ·rw [if_neg (by intro hv; unfold validX at hv; rw [ho] at hv; simp only [Bool.and_eq_true,decide_eq_true_eq] at hv; exact h2 ⟨hv.1.2,hv.2⟩)]
   simp -dsimp(disch:=first|exact om|fail)only[go_sem,simprocAttr,xE,xN,xC,xP,xA,xZ,pC]
   refine callP hP (by simp -dsimp(disch:=first|exact om|fail)only[go_sem,simprocAttr,xE,xN,xC,xP,xA,xZ,pC]) ?_
   simp -dsimp(disch:=first|exact om|fail)only[go_sem,simprocAttr,xE,xN,xC,xP,xA,xZ]
   refine callB' (Q8W g hg l p.rows hl h2) lB lF ?_
   simp -dsimp(disch:=first|exact om|fail)only[go_sem,simprocAttr,xE,xN,xC,xP,xA,xZ]
   exact X3V
theorem Y4r {P : Nat → Bool} {n k : Nat} (h : (List.range n).all P = true) (hk : k < n) : P k = true:=by
 rw [List.all_eq_true] at h; exact h k (List.mem_range.2 hk)
theorem Y1P {P : Nat → Bool} {k : Nat} (h : (List.range k).all P = true) (h2 : P k = true) : (List.range (k + 1)).all P = true:=by
 rw [List.range_succ,List.all_append,h]; simp [h2]
theorem X8K {P : Nat → Bool} {n k : Nat} (hk : k < n) (h : P k = false) : (List.range n).all P = false:=by
 cases e : (List.range n).all P with
 | false=>rfl
 | true=>have:=Y4r e hk; rw [h] at this; exact absurd this (by decide)
noncomputable def colB (p : Prg) (x : List FQ) (least : Nat → Int) (j : Nat) : Bool:=(wSum (colL p j) x).good && !decide ((wSum (colL p j) x).cmp (FQ.ofInt (least j)) < 0)
noncomputable def colsB (p : Prg) (x : List FQ) (least : Nat → Int) : Bool:=(List.range p.cols.toNat).all (colB p x least)
theorem sml_c {p : Prg} (ho : okP' p = true) {j : Nat} (hj : (j : Int) < p.cols) : -100 ≤ p.c.getD j 0 ∧ p.c.getD j 0 ≤ 100:=by
 obtain ⟨_,_,hal,hbl,hcl,ia,ib,ic⟩:=Q0l ho
 exact Q6v ic (by omega)
theorem sg_lt {z : Int} : sgZ z < 0 ↔ z < 0:=by
 unfold sgZ
 split
 ·omega
 ·split <;> omega
noncomputable def dualB (p : Prg) (l : List RD) : Bool:=validX p l p.rows && colsB p (l.map rdq) (fun j=>p.c.getD j 0)
def rowI (p : Prg) (i : Nat) : List Int:=(p.a.drop (i * p.cols.toNat)).take p.cols.toNat
theorem Q8Q {p : Prg} (ho : okP' p = true) {i : Nat} (hi : (i : Int) < p.rows) : ∃ c : Nat,p.cols = c ∧ c ≤ 40 ∧ i * c + c ≤ p.a.length ∧ p.a.length ≤ 800 ∧ (rowI p i).length = c ∧ rowI p i = (p.a.drop (i * c)).take c:=by
 obtain ⟨⟨r1,r2⟩,⟨c1,c2⟩,hal,_⟩:=Q0l ho
 obtain ⟨c,hc⟩ : ∃ c : Nat,p.cols = c:=⟨p.cols.toNat,by omega⟩
 obtain ⟨r,hr⟩ : ∃ r : Nat,p.rows = r:=⟨p.rows.toNat,by omega⟩
 rw [hr,hc,← Int.natCast_mul] at hal
 have h1 : (i + 1) * c ≤ r * c:=Nat.mul_le_mul_right c (by omega)
 have h2 : r * c ≤ 20 * 40:=Nat.mul_le_mul (by omega) (by omega)
 rw [Nat.succ_mul] at h1
 have e : p.cols.toNat = c:=by omega
 refine ⟨c,hc,by omega,by omega,by omega, ?_,by unfold rowI; rw [e]⟩
 unfold rowI
 rw [e,List.length_take,List.length_drop]
 omega
theorem Y5U {p : Prg} (ho : okP' p = true) {i : Nat} (hi : (i : Int) < p.rows) : sml (rowI p i):=by
 obtain ⟨c,hc,h40,h1,h2,hl,e⟩:=Q8Q ho hi
 obtain ⟨_,_,_,_,_,ia,_⟩:=Q0l ho
 intro k hk
 rw [hl] at hk
 have : (rowI p i).getD k 0 = p.a.getD (i * c + k) 0:=by
  rw [e,List.getD_eq_getElem?_getD,List.getElem?_take_of_lt hk,List.getElem?_drop,← List.getD_eq_getElem?_getD]
 rw [this]
 exact Q6v ia (by omega)
theorem Z0z {l : List Int} {i c : Nat} : ((iC l).drop i).take c = iC ((l.drop i).take c):=by simp [iC,List.map_take,List.map_drop]
theorem Y4U {x : FQ} : x.cmp (FQ.ofInt 0) < 0 ↔ x.num < 0:=by
 unfold FQ.cmp
 rw [X7J (by decide),X7K (by decide)]
 unfold cmpZ
 have e1 : x.num * ((1 : Nat) : Int) = x.num:=by omega
 have e2 : (0 : Int) * (x.den : Int) = 0:=Int.zero_mul _
 rw [e1,e2]
 split
 ·omega
 ·split <;> omega
noncomputable def farkB (p : Prg) (l : List RD) : Bool:=(bndQ p l).good && decide ((bndQ p l).num < 0) && colsB p (l.map rdq) (fun _=>0)
def sgR (p : Prg) (i : Nat) : Int:=if p.b.getD i 0 < 0 then -1 else 1
def fstM (p : Prg) (r c : Nat) (i j : Nat) : FQ:=if j < c then FQ.ofInt (sgR p i * (rowI p i).getD j 0) else if j < c + r then FQ.ofInt (if j - c = i then 1 else 0) else FQ.ofInt (sgR p i * p.b.getD i 0)
def fstC (p : Prg) (r c : Nat) : Nat → Nat → FQ
 | 0,_=>FQ.ofInt 0
 | i + 1,j=>if j < c ∨ j = c + r then (fstC p r c i j).add (fstM p r c i j) else fstC p r c i j
theorem Y4p {c : Nat} {g : Nat → FQ} {x : FQ} (h : g c = x) : rsC .s ((rowQ c g).map qd) ++ [Bo (qd x).neg,sI .s (qd x).mag,sI .s (qd x).den] = rsC .s ((rowQ (c + 1) g).map qd):=by
 rw [Y9E]
 unfold rowQ
 rw [List.range_succ,List.map_append,List.map_append,← h]; rfl
theorem Y7v {m : Nat} {β : Nat → Nat} : bL (m + 1) β = bL m β ++ [(β m : Int)]:=by
 unfold bL; rw [List.range_succ,List.map_append]; rfl
def kp (c : Nat) (s : SP) : Nat → List Nat
 | 0=>[]
 | i + 1=>if s.β i < c then kp c s i ++ [i] else kp c s i
structure PD (p : Prg) (r c : Nat) : Prop where
 r20 : r ≤ 20
 c40 : c ≤ 40
 m : p.lp.m = r
 n : p.lp.n = c
 a : ∀ i j,i < r → j < c → (rowI p i).getD j 0 = p.a.getD (i * c + j) 0 ∧ -100 ≤ p.a.getD (i * c + j) 0 ∧ p.a.getD (i * c + j) 0 ≤ 100
 b : ∀ i,i < r → -100 ≤ p.b.getD i 0 ∧ p.b.getD i 0 ≤ 100
 cc : ∀ j,-100 ≤ p.c.getD j 0 ∧ p.c.getD j 0 ≤ 100
 cn : p.c.getD c 0 = 0
 A : ∀ i j,p.lp.A i j = ((p.a.getD (i * c + j) 0 : Int) : Rat)
 B : ∀ i,p.lp.b i = ((p.b.getD i 0 : Int) : Rat)
 C : ∀ j,p.lp.c j = ((p.c.getD j 0 : Int) : Rat)
theorem Y2N {i j r c : Nat} (hi : i < r) (hj : j < c) : i * c + j < r * c:=by
 have : (i + 1) * c ≤ r * c:=Nat.mul_le_mul_right c (by omega)
 rw [Nat.add_mul,Nat.one_mul] at this; omega
theorem PD.mk' {p : Prg} {r c : Nat} (ho : okP' p = true) (hr : p.rows = r) (hc : p.cols = c) : PD p r c:=by
 have hF:=fun i=>@Q8Q p ho i
 obtain ⟨⟨r1,r2⟩,⟨c1,c2⟩,hal,hbl,hcl,ia,ib,ic⟩:=Q0l ho
 have hn : p.cols.toNat = c:=by omega
 have hL : p.a.length = r * c:=by rw [hr,hc] at hal; exact_mod_cast hal
 refine ⟨by omega,by omega,by show p.rows.toNat = r; omega,hn,fun i j hi hj=>?_,fun i hi=>Q6v ib (by omega),fun j=>?_, ?_,fun i j=>?_,fun _=>rfl,fun _=>rfl⟩
 ·obtain ⟨c',e1,e2,e3,e4,e5,e6⟩:=hF i (by omega)
  have hcc : c' = c:=by omega
  subst hcc
  refine ⟨?_,Q6v ia (by rw [hL]; exact Y2N hi hj)⟩
  rw [e6,List.getD_eq_getElem?_getD,List.getElem?_take_of_lt hj,List.getElem?_drop,← List.getD_eq_getElem?_getD]
 ·by_cases hj : j < p.c.length
  ·exact Q6v ic hj
  ·rw [List.getD_eq_getElem?_getD,List.getElem?_eq_none (by omega)]; exact ⟨by decide,by decide⟩
 ·rw [List.getD_eq_getElem?_getD,List.getElem?_eq_none (by omega)]; rfl
 ·show ((p.a.getD (i * p.cols.toNat + j) 0 : Int) : Rat) = _
  rw [hn]
theorem PD.sgn {p : Prg} {r c : Nat} (h : PD p r c) (i : Nat) : sg p.lp i = ((sgR p i : Int) : Rat):=by
 unfold sg sgR
 rw [h.B]
 by_cases e : p.b.getD i 0 < 0
 ·rw [if_pos e,if_pos (by exact_mod_cast e)]; rfl
 ·rw [if_neg e,if_neg (fun q=>e (by exact_mod_cast q))]; rfl
theorem Y1K {p : Prg} {i : Nat} : sgR p i = 1 ∨ sgR p i = -1:=by unfold sgR; split <;> simp
theorem PD.int {p : Prg} {r c : Nat} (h : PD p r c) {i j : Nat} (hi : i < r) (hj : j ≤ c + r) : ∃ z : Int,fstM p r c i j = FQ.ofInt z ∧ (ph1 p.lp).A i j = (z : Rat) ∧ z.natAbs ≤ 100:=by
 unfold fstM
 show ∃ z : Int,_ ∧ (if j < p.lp.n then sg p.lp i * p.lp.A i j else if j < p.lp.n + p.lp.m then (if j = p.lp.n + i then (1 : Rat) else 0) else sg p.lp i * p.lp.b i) = _ ∧ _
 rw [h.n,h.m]
 have hs:=Y1K (p:=p) (i:=i)
 by_cases h1 : j < c
 ·obtain ⟨a1,a2,a3⟩:=h.a i j hi h1
  refine ⟨sgR p i * p.a.getD (i * c + j) 0,by rw [if_pos h1,a1],by rw [if_pos h1,h.sgn,h.A,Rat.intCast_mul], ?_⟩
  rcases hs with e | e <;> rw [e] <;> omega
 ·by_cases h2 : j < c + r
  ·refine ⟨if j - c = i then 1 else 0,by rw [if_neg h1,if_pos h2], ?_,by split <;> decide⟩
   rw [if_neg h1,if_pos h2]
   by_cases e : j = c + i
   ·rw [if_pos e,if_pos (by omega)]; rfl
   ·rw [if_neg e,if_neg (by omega)]; rfl
  ·obtain ⟨b1,b2⟩:=h.b i hi
   refine ⟨sgR p i * p.b.getD i 0,by rw [if_neg h1,if_neg h2],by rw [if_neg h1,if_neg h2,h.sgn,h.B,Rat.intCast_mul], ?_⟩
   rcases hs with e | e <;> rw [e] <;> omega
theorem Z0r {a k : Nat} (h : a ≤ 100) (hk : 7 ≤ k) : a ≤ 2 ^ k:=Nat.le_trans (Nat.le_trans h (by decide : 100 ≤ 2 ^ 7)) (Nat.pow_le_pow_right (by decide) hk)
theorem PD.val {p : Prg} {r c : Nat} (h : PD p r c) {i j : Nat} (hi : i < r) (hj : j ≤ c + r) {k : Nat} (hk : 7 ≤ k) (hk2 : k ≤ 696) : FV (fstM p r c i j) ((ph1 p.lp).A i j) k:=by
 obtain ⟨z,e1,e2,e3⟩:=h.int hi hj
 rw [e1,e2]
 exact FV.ofInt (Z0r e3 hk) hk2
theorem PD.bd {p : Prg} {r c : Nat} (h : PD p r c) : Bd p.lp 100 p.lp.m (p.lp.n + p.lp.m) (ph1 p.lp) 1:=Bd.first fun i j hi hj=>by
 obtain ⟨z,_,e2,e3⟩:=h.int (i:=i) (j:=j) (by rw [← h.m]; exact hi) (by rw [← h.m,← h.n]; exact hj)
 exact ⟨z,e2,e3⟩
theorem PD.cost {p : Prg} {r c : Nat} (h : PD p r c) {j : Nat} (hj : j < c ∨ j = c + r) : ∀ i,i ≤ r → FV (fstC p r c i j) (sm i fun a=>(ph1 p.lp).A a j) (8 * i + 7)
 | 0,_=>FV.ofInt (z:=0) (by decide) (by omega)
 | i + 1,hi=>by
  have ih:=PD.cost h hj i (by omega)
  have:=ih.add (h.val (i:=i) (j:=j) (k:=7) (by omega) (by omega) (by omega) (by omega)) (by have:=h.r20; omega)
  show FV (if j < c ∨ j = c + r then (fstC p r c i j).add (fstM p r c i j) else fstC p r c i j) (sm i _ + _) _
  rw [if_pos hj]
  exact this.mono (by omega)
theorem FV.fit {x : FQ} {r : Rat} {k : Nat} (h : FV x r k) (hk : k ≤ 696) : x = FQ.fit r:=FQ.ext (by rw [h.v,X1h h.s hk])
noncomputable def lpR (p : Prg) : QD:=⟨(lpOf p.lp).1,(lpOf p.lp).2.1.map qd,qd (lpOf p.lp).2.2⟩
theorem Y4k (p q : Bool) (a b : Nat) : sgn (p != q) (a / b) = (sgn p a).tdiv (sgn q b):=by
 have e : ((a / b : Nat) : Int) = (a : Int).tdiv (b : Int):=by rw [Int.ofNat_tdiv]
 unfold sgn
 cases p <;> cases q <;> simp [e,Int.neg_tdiv,Int.tdiv_neg]
theorem Y5Y (x y : Int) : sgn (zb x != zb y) (x.natAbs / y.natAbs) = x.tdiv y:=by rw [Y4k,Q5G,Q5G]
theorem X4v (f g : Fl) (hf : f ≠ .u) (hg : g ≠ .u) (x y : Int) (hy0 : y ≠ 0) (hx : (lim x.natAbs).length ≤ 1000000) (hy : (lim y.natAbs).length ≤ 1000000) : PC PP Q3m [zV f x,zV g y] (zV .s (x.tdiv y)) []:=by
 refine tx Q8y Q2G [] (by kernel_rfl) ?_
 simp -dsimp(disch:=first|exact om|fail)only[go_sem,simprocAttr,xE,xN,xC,xP,xA,xZ]
 refine callP (X7H f g hf hg x.natAbs y.natAbs (by omega) (by omega) (by omega)) lL ?_
 simp -dsimp(disch:=first|exact om|fail)only[go_sem,simprocAttr,xE,xN,xC,xP,xA,xZ]
 refine callP (Q2S (x.tdiv y) (zb x != zb y) (x.natAbs / y.natAbs) (Y5Y x y)) lL ?_
 simp -dsimp(disch:=first|exact om|fail)only[go_sem,simprocAttr,xE,xN,xC,xP,xA,xZ]
def ixBs (β : Nat → Nat) (m k : Nat) : Int:=if fstN (fun i=>decide (β i = k)) m < m then ((fstN (fun i=>decide (β i = k)) m : Nat) : Int) else -1
theorem Y7y (g : Fl) (hg : g ≠ .u) (m : Nat) (β : Nat → Nat) (hm : m ≤ 20) (hβ : ∀ i,i < m → β i ≤ 60) (k : Nat) (hk : k ≤ 60) : PC PP Q2N [.sl g 1 m (iC (bL m β)),I k] (I (ixBs β m k)) []:=by
 obtain ⟨f1,f2,f3⟩:=Q1h (P:=fun i=>decide (β i = k)) (n:=m)
 have hi : ixBs β m k = if fstN (fun i=>decide (β i = k)) m < m then ((fstN (fun i=>decide (β i = k)) m : Nat) : Int) else -1:=rfl
 generalize fstN (fun i=>decide (β i = k)) m = n at *
 refine tx Q7u Q2m [] (by kernel_rfl) ?_
 simp -dsimp(disch:=first|exact om|fail)only[go_sem,simprocAttr,xE,xN,xC,xP,xA,xZ]
 refine loopI (fun i : Nat=>i ≤ n) (fun i=>⟨[(0,.sl g 1 m (iC (bL m β))),(1,I k),(7,I m),(8,I i)],[]⟩) (fun i=>m - i) 0 (by omega) ?_ ?_
 ·simp -dsimp(disch:=first|exact om|fail)only[go_sem,simprocAttr,xE,xN,xC,xP,xA,xZ]
 intro i hin
 by_cases h : i < m
 ·by_cases e : β i = k
  ·have hn : i = n:=by
    rcases Nat.lt_or_eq_of_le hin with q | q
    ·have:=f2 i q
     simp [e] at this
    ·exact q
   have e1 : (k : Int) = ((β i : Nat) : Int):=by omega
   rw [hi,if_pos (by omega),← hn]
   simp -dsimp(disch:=first|exact om|fail)only[go_sem,simprocAttr,xE,xN,xC,xP,xA,xZ,e1]
  ·have hn : i + 1 ≤ n:=by
    rcases Nat.lt_or_eq_of_le hin with q | q
    ·exact q
    ·have:=f3 (by omega)
     rw [← q] at this
     simp [e] at this
   have hb:=hβ i h
   have e1 : ¬ (k : Int) = ((β i : Nat) : Int):=by omega
   simp -dsimp(disch:=first|exact om|fail)only[go_sem,simprocAttr,xE,xN,xC,xP,xA,xZ,e1]
   exact ⟨i + 1,by omega,by omega,by simp -dsimp(disch:=first|exact om|fail)only[go_sem,simprocAttr,xE,xN,xC,xP,xA,xZ]⟩
 ·obtain rfl : m = i:=by omega
  rw [hi,if_neg (by omega)]
  simp -dsimp(disch:=first|exact om|fail)only[go_sem,simprocAttr,xE,xN,xC,xP,xA,xZ]
theorem X6j (g : Fl) (hg : g ≠ .u) (m : Nat) (β : Nat → Nat) (hm : m ≤ 20) (hβ : ∀ i,i < m → β i ≤ 60) (k : Nat) (hk : k ≤ 60) : PC PP Q1K [.sl g 1 m (iC (bL m β)),I k] (Bo (basB β m k)) []:=by
 obtain ⟨f1,f2,f3⟩:=Q1h (P:=fun i=>decide (β i = k)) (n:=m)
 have q:=Y7y g hg m β hm hβ k hk
 refine tx Q5y Q1B [] (by kernel_rfl) ?_
 simp -dsimp(disch:=first|exact om|fail)only[go_sem,simprocAttr,xE,xN,xC,xP,xA,xZ]
 refine callP q lL ?_
 unfold ixBs
 by_cases h : fstN (fun i=>decide (β i = k)) m < m
 ·rw [if_pos h,show basB β m k = true from X3E.2 ⟨_,h,of_decide_eq_true (f3 h)⟩]
  simp -dsimp(disch:=first|exact om|fail)only[go_sem,simprocAttr,xE,xN,xC,xP,xA,xZ]
 ·rw [if_neg h,Y1k (fun i hi e=>by have:=f2 i (by omega); simp [e] at this)]
  simp -dsimp(disch:=first|exact om|fail)only[go_sem,simprocAttr,xE,xN,xC,xP,xA,xZ]
end Go.Proofs.Ytchlpclgkhggeaa