/- part of the proof -/
import Derived.Test.YtchlpclgkhggeaaGreatWTj
import Derived.Test.YtchlpclgkhggeaaGreatWIa
import Derived.Test.YtchlpclgkhggeaaGreatWTd
namespace Go.Proofs.YtchlpclgkhggeaaGreat
open Go Go.RowKit
set_option maxRecDepth 100000
set_option maxHeartbeats 4000000
set_option linter.unusedVariables false
set_option linter.unusedSimpArgs false
def xSol (c : Nat) (s : SP) : Nat → Nat → FQ
 | 0=>fun _=>FQ.ofInt 0
 | i + 1=>upd1 (xSol c s i) (s.β i) (s.M i c)
def solQ (r c : Nat) (s1 s3 : SP) (m' : Nat) (b : Bool) : QD :=
 if (s1.cost (c + r)).num = 0 then (if b = true then ⟨0,(rowQ c (xSol c s3 m')).map qd,qd (s3.cost c).neg⟩ else ⟨3,[],RD.zero⟩) else ⟨2,[],RD.zero⟩
abbrev reO : Ob:=⟨.own,Q1p,[I 0,.emp,Bo false,.emp,.emp]⟩
theorem Y9D {H : List Ob} {id n : Nat} {ty : TypeId} {L : List RD} (h : H[id]? = some ⟨.own,ty,rsC .s L⟩) (hl : L.length = n) : Le H .s (.rsl id 3 0 n) (sR .s L):=by
 subst hl
 have:=Le.rsl (H:=H) (f:=.s) id 3 0 L.length ⟨.own,ty,rsC .s L⟩ (rsC .s L) h (.inl rfl) (by simp [Q0D]) (by
  simp only [Nat.zero_mul,List.drop_zero]
  rw [List.take_of_length_le (by simp [Q0D])]
  exact X3i)
 exact this
theorem Y5v {H : List Ob} {js : List (Option Nat)} {m N q : Nat} {s : SP} {t : TypeId} (h : H[q]? = some ⟨.own,t,rsC .s ((rowQ (N + 1) s.cost).map qd)⟩) :
  RnL H js true [I N,.sl .u 1 m (rwS .u m (N + 1) s.M),.sl .u 1 m (iC (bL m s.β)),.rsl q 3 0 (N + 1)] (tbS .u m N s) [q] :=
 .cons _ _ _ _ _ _ [] [q] (.same _ _ _ trivial (fun h=>by cases h)) (.cons _ _ _ _ _ _ [] [q] (.same _ _ _ trivial (fun h=>by cases h)) (.cons _ _ _ _ _ _ [] [q] (.same _ _ _ trivial (fun h=>by cases h)) (.cons _ _ _ _ _ _ [q] [] (Q5q h) (.nil _ _))))
theorem X9T (f : Fl) (hf : f ≠ .u) (p : Prg) (r c : Nat) (ho : okP' p = true) (hr : p.rows = r) (hc : p.cols = c) (s1 s3 : SP) (b1 b2 : Bool) (m' : Nat) (hm' : m' = (kp c (cln c s1 r) r).length)
  (hrun1 : GC PP Q4c [.ref 0 0,Bo false] [tabO r (c + r) (fstS p r c)] (Bo b1) [tabO r (c + r) s1])
  (hrun2 : (s1.cost (c + r)).num = 0 → GC PP Q4c [.ref 0 0,Bo true] [tabO m' c (secS p c r (c + r) (cln c s1 r))] (Bo b2) [tabO m' c s3])
  (hβ1 : ∀ i,i < r → s1.β i ≤ 60) (hβ3 : (s1.cost (c + r)).num = 0 → ∀ i,i < m' → s3.β i < c) :
  PC PP Q4E [pV f p] (reV .s (solQ r c s1 s3 m' b2)) []:=by
 have q1:=Y5L f hf p r c ho hr hc
 obtain ⟨⟨r1,r2⟩,⟨c1,c2⟩,hal,hbl,hcl,ia,ib,ic⟩:=Q0F ho
 have q2:=Y3E f hf p r c ho hr hc r (c + r) (by omega) (by omega) (by omega) s1 hβ1
 have hm20 : m' ≤ 20:=by rw [hm']; have:=kp_le (c:=c) (s:=cln c s1 r) (i:=r); omega
 rw [← hm'] at q2
 generalize secS p c r (c + r) (cln c s1 r) = s2 at *
 generalize cln c s1 r = z at *
 generalize fstS p r c = s0 at *
 simp only [pV,pC,hr,hc] at q1 q2 ⊢
 refine txe X8m Q7d [] [3,5,8] [2,5,6] (by kernel_rfl) ?_
 simp -dsimp(disch:=first|exact om|fail)only[go_sem,simprocAttr,xE,xN,xC,xP,xA,xZ]
 refine callO' q1 lL lF ?_
 simp -dsimp(disch:=first|exact om|fail)only[go_sem,simprocAttr,xE,xN,xC,xP,xA,xZ]
 refine callG' [2] hrun1 (by decide) lL lL lE lF ?_
 simp -dsimp(disch:=first|exact om|fail)only[go_sem,simprocAttr,xE,xN,xC,xP,xA,xZ]
 refine ⟨⟨[(1,.ref 0 0),(2,.ref 1 0),(3,.ref 2 0)],[prO f r c p,reO,⟨.own,Q0a,[I ((c + r : Nat) : Int),.sl .u 1 r (rwS .u r (c + r + 1) s1.M),.sl .u 1 r (iC (bL r s1.β)),.rsl 3 3 0 (c + r + 1)]⟩,rwO (c + r + 1) s1.cost]⟩, ?_, ?_⟩
 ·refine (StI.ren (H':=[prO f r c p,reO,tabO r (c + r) s1]) [some 0,some 1,some 2] [[],[],[]] lE (by decide) lW ?_).trans (StI.open (H:=[prO f r c p,reO,tabO r (c + r) s1]) 2 3 (ty:=Q0a) (cs:=tbS .u r (c + r) s1) (cs0:=rsC .s ((rowQ (c + r + 1) s1.cost).map qd)) (sz:=3) (n:=c + r + 1) rfl rfl Q0m)
  simp -dsimp(disch:=first|exact om|fail)only[go_sem,simprocAttr,xE,xN,xC,xP,xA,xZ]
 simp -dsimp(disch:=first|exact om|fail)only[go_sem,simprocAttr,xE,xN,xC,xP,xA,xZ]
 refine callP (sgn_c (s1.cost (c + r))) lL ?_
 by_cases hz : (s1.cost (c + r)).num = 0
 ·have e1 : sgZ (s1.cost (c + r)).num = 0:=Q1c.2 hz
  rw [show solQ r c s1 s3 m' b2 = if b2 = true then ⟨0,(rowQ c (xSol c s3 m')).map qd,qd (s3.cost c).neg⟩ else ⟨3,[],RD.zero⟩ from if_pos hz]
  simp -dsimp(disch:=first|exact om|fail)only[go_sem,simprocAttr,xE,xN,xC,xP,xA,xZ,e1]
  refine ⟨⟨[(1,.ref 0 0),(2,.ref 1 0),(3,.ref 2 0)],[prO f r c p,reO,tabO r (c + r) s1]⟩, ?_, ?_⟩
  ·refine StI.ren [some 0,some 1,some 2] [[],[],[3]] lE (by decide) ?_ lW
   simp -dsimp(disch:=first|exact om|fail)only[go_sem,simprocAttr,xE,xN,xC,xP,xA,xZ]
   exact Y5v rfl
  simp -dsimp(disch:=first|exact om|fail)only[go_sem,simprocAttr,xE,xN,xC,xP,xA,xZ]
  refine callG' [2] q2 (by decide) lL lL lE lF ?_
  simp -dsimp(disch:=first|exact om|fail)only[go_sem,simprocAttr,xE,xN,xC,xP,xA,xZ]
  refine callG' [4] (hrun2 hz) (by decide) lL lL lE lF ?_
  have hβ3:=hβ3 hz
  cases b2
  ·simp -dsimp(disch:=first|exact om|fail)only[go_sem,simprocAttr,xE,xN,xC,xP,xA,xZ]
   exact .cons _ _ _ _ (.lit _) (.cons _ _ _ _ (.esl _ _) (.cons _ _ _ _ (.lit _) (.cons _ _ _ _ (.esl _ _) (.cons _ _ _ _ (.esl _ _) .nil))))
  ·simp -dsimp(disch:=first|exact om|fail)only[go_sem,simprocAttr,xE,xN,xC,xP,xA,xZ]
   refine ⟨⟨[(1,.ref 0 0),(2,.ref 1 0),(4,.ref 2 0)],[prO f r c p,reO,⟨.frz,Q0a,tbS .s m' c s3⟩]⟩, ?_, ?_⟩
   ·refine (StI.ren (H':=[prO f r c p,reO,tabO m' c s3]) [some 0,some 1,some 4] [[],[],[]] lE (by decide) lW ?_).trans (StI.share 2 rfl Y4o Z0i Z0h)
    simp -dsimp(disch:=first|exact om|fail)only[go_sem,simprocAttr,xE,xN,xC,xP,xA,xZ]
   simp -dsimp(disch:=first|exact om|fail)only[go_sem,simprocAttr,xE,xN,xC,xP,xA,xZ]
   refine callP (Y0N .s fls (s3.cost c)) lL ?_
   simp -dsimp(disch:=first|exact om|fail)only[go_sem,simprocAttr,xE,xN,xC,xP,xA,xZ]
   obtain ⟨v,hv⟩ : ∃ v,v = qd (s3.cost c).neg:=⟨_,rfl⟩
   rw [← hv]
   refine loopJ (fun j : Nat=>j ≤ c) (fun j=>⟨[(1,.ref 0 0),(2,.ref 1 0),(4,.ref 2 0),(5,.ref 3 0),(6,I j)],[prO f r c p,reO,⟨.frz,Q0a,tbS .s m' c s3⟩,⟨.own,Q1p,[I 0,.rsl 4 3 0 j,Bo v.neg,sI .s v.mag,sI .s v.den]⟩,rwO j (xSol c s3 0)]⟩) (fun j=>c - j) 0 (by omega) ?_ ?_
   ·refine StI.ren [some 0,some 1,some 2,some 3,none] [[],[],[],[],[]] lE (by decide) ?_ lW
    simp -dsimp(disch:=first|exact om|fail)only[go_sem,simprocAttr,xE,xN,xC,xP,xA,xZ]
    rfl
   intro j hj
   by_cases hjc : j < c
   ·have hpush:=Q3Y (c:=j) (g:=xSol c s3 0) (x:=FQ.ofInt 0) rfl
    simp -dsimp(disch:=first|exact om|fail)only[go_sem,simprocAttr,xE,xN,xC,xP,xA,xZ]
    refine callP (Q0C 0 (by omega)) lL ?_
    simp -dsimp(disch:=first|exact om|fail)only[go_sem,simprocAttr,xE,xN,xC,xP,xA,xZ,hpush]
    exact ⟨j + 1,by omega,by omega,StI.ren [some 0,some 1,some 2,some 3,some 5] [[],[],[],[],[]] lE (by decide) lW lW⟩
   ·obtain rfl : c = j:=by omega
    simp -dsimp(disch:=first|exact om|fail)only[go_sem,simprocAttr,xE,xN,xC,xP,xA,xZ]
    refine loopJ (fun i : Nat=>i ≤ m') (fun i=>⟨[(1,.ref 0 0),(2,.ref 1 0),(4,.ref 2 0),(5,.ref 3 0),(60,.sl .s 1 m' (iC (bL m' s3.β))),(61,I m'),(62,I i)],[prO f r c p,reO,⟨.frz,Q0a,tbS .s m' c s3⟩,⟨.own,Q1p,[I 0,.rsl 4 3 0 c,Bo v.neg,sI .s v.mag,sI .s v.den]⟩,rwO c (xSol c s3 i)]⟩) (fun i=>m' - i) 0 (by omega) ?_ ?_
    ·exact StI.ren [some 0,some 1,some 2,some 3,some 4] [[],[],[],[],[]] lE (by decide) lW lW
    intro i hi
    by_cases him : i < m'
    ·have hb:=hβ3 i him
     have hset:=Y0B (c:=c) (g:=xSol c s3 i) (x:=s3.M i c) hb
     have hx : upd1 (xSol c s3 i) (s3.β i) (s3.M i c) = xSol c s3 (i + 1):=rfl
     rw [hx] at hset
     have qd8:=Q4R (s3.M i c)
     simp -dsimp(disch:=first|exact om|fail)only[go_sem,simprocAttr,xE,xN,xC,xP,xA,xZ]
     refine callP (Y7P .s fls (qd (s3.M i c)) qd8) lL ?_
     simp -dsimp(disch:=first|exact om|fail)only[go_sem,simprocAttr,xE,xN,xC,xP,xA,xZ,hset]
     exact ⟨i + 1,by omega,by omega,StI.ren [some 0,some 1,some 2,some 3,some 4] [[],[],[],[],[]] lE (by decide) lW lW⟩
    ·obtain rfl : m' = i:=by omega
     simp -dsimp(disch:=first|exact om|fail)only[go_sem,simprocAttr,xE,xN,xC,xP,xA,xZ]
     have hl : ((rowQ c (xSol c s3 m')).map qd).length = c:=Q1S
     have hle:=Y9D (H:=[prO f r c p,⟨.own,Q1p,[I 0,.rsl 4 3 0 c,Bo v.neg,sI .s v.mag,sI .s v.den]⟩,⟨.frz,Q0a,tbS .s m' c s3⟩,⟨.own,Q1p,[I 0,.rsl 4 3 0 c,Bo v.neg,sI .s v.mag,sI .s v.den]⟩,rwO c (xSol c s3 m')]) (id:=4) (ty:=Q0m) (L:=(rowQ c (xSol c s3 m')).map qd) rfl hl
     exact .cons _ _ _ _ (.lit _) (.cons _ _ _ _ hle (.cons _ _ _ _ (.lit _) (.cons _ _ _ _ (.sl _ _ _ _ _ _ (show FlLe .s .s .s from Or.inl rfl) LeL.lits) (.cons _ _ _ _ (.sl _ _ _ _ _ _ (show FlLe .s .s .s from Or.inl rfl) LeL.lits) .nil))))
 ·have e1 : ¬ sgZ (s1.cost (c + r)).num = 0:=fun q=>hz (Q1c.1 q)
  rw [show solQ r c s1 s3 m' b2 = ⟨2,[],RD.zero⟩ from if_neg hz]
  simp -dsimp(disch:=first|exact om|fail)only[go_sem,simprocAttr,xE,xN,xC,xP,xA,xZ,e1]
  exact .cons _ _ _ _ (.lit _) (.cons _ _ _ _ (.esl _ _) (.cons _ _ _ _ (.lit _) (.cons _ _ _ _ (.esl _ _) (.cons _ _ _ _ (.esl _ _) .nil))))
structure PD (p : Prg) (r c : Nat) : Prop where
 r20 : r ≤ 20
 c40 : c ≤ 40
 m : p.lp.m = r
 n : p.lp.n = c
 a : ∀ i j,i < r → j < c → (rowI p i).getD j 0 = p.a.getD (i * c + j) 0 ∧ -100 ≤ p.a.getD (i * c + j) 0 ∧ p.a.getD (i * c + j) 0 ≤ 100
 b : ∀ i,i < r → -100 ≤ p.b.getD i 0 ∧ p.b.getD i 0 ≤ 100
 cc : ∀ j,-100 ≤ p.c.getD j 0 ∧ p.c.getD j 0 ≤ 100
 cn : p.c.getD c 0 = 0
 A : ∀ i j,p.lp.A i j = ((p.a.getD (i * c + j) 0 : Int) : Rat)
 B : ∀ i,p.lp.b i = ((p.b.getD i 0 : Int) : Rat)
 C : ∀ j,p.lp.c j = ((p.c.getD j 0 : Int) : Rat)
theorem Z5h {i j r c : Nat} (hi : i < r) (hj : j < c) : i * c + j < r * c:=by
 have : (i + 1) * c ≤ r * c:=Nat.mul_le_mul_right c (by omega)
 rw [Nat.add_mul,Nat.one_mul] at this; omega
theorem PD.mk' {p : Prg} {r c : Nat} (ho : okP' p = true) (hr : p.rows = r) (hc : p.cols = c) : PD p r c:=by
 have hF:=fun i=>@Q4d p ho i
 obtain ⟨⟨r1,r2⟩,⟨c1,c2⟩,hal,hbl,hcl,ia,ib,ic⟩:=Q0F ho
 have hn : p.cols.toNat = c:=by omega
 have hL : p.a.length = r * c:=by rw [hr,hc] at hal; exact_mod_cast hal
 refine ⟨by omega,by omega,by show p.rows.toNat = r; omega,hn,fun i j hi hj=>?_,fun i hi=>Q8U ib (by omega),fun j=>?_, ?_,fun i j=>?_,fun _=>rfl,fun _=>rfl⟩
 ·obtain ⟨c',e1,e2,e3,e4,e5,e6⟩:=hF i (by omega)
  have hcc : c' = c:=by omega
  subst hcc
  refine ⟨?_,Q8U ia (by rw [hL]; exact Z5h hi hj)⟩
  rw [e6,List.getD_eq_getElem?_getD,List.getElem?_take_of_lt hj,List.getElem?_drop,← List.getD_eq_getElem?_getD]
 ·by_cases hj : j < p.c.length
  ·exact Q8U ic hj
  ·rw [List.getD_eq_getElem?_getD,List.getElem?_eq_none (by omega)]; exact ⟨by decide,by decide⟩
 ·rw [List.getD_eq_getElem?_getD,List.getElem?_eq_none (by omega)]; rfl
 ·show ((p.a.getD (i * p.cols.toNat + j) 0 : Int) : Rat) = _
  rw [hn]
theorem PD.sgn {p : Prg} {r c : Nat} (h : PD p r c) (i : Nat) : sg p.lp i = ((sgR p i : Int) : Rat):=by
 unfold sg sgR
 rw [h.B]
 by_cases e : p.b.getD i 0 < 0
 ·rw [if_pos e,if_pos (by exact_mod_cast e)]; rfl
 ·rw [if_neg e,if_neg (fun q=>e (by exact_mod_cast q))]; rfl
theorem Y6M {p : Prg} {i : Nat} : sgR p i = 1 ∨ sgR p i = -1:=by unfold sgR; split <;> simp
theorem PD.int {p : Prg} {r c : Nat} (h : PD p r c) {i j : Nat} (hi : i < r) (hj : j ≤ c + r) : ∃ z : Int,fstM p r c i j = FQ.ofInt z ∧ (ph1 p.lp).A i j = (z : Rat) ∧ z.natAbs ≤ 100:=by
 unfold fstM
 show ∃ z : Int,_ ∧ (if j < p.lp.n then sg p.lp i * p.lp.A i j else if j < p.lp.n + p.lp.m then (if j = p.lp.n + i then (1 : Rat) else 0) else sg p.lp i * p.lp.b i) = _ ∧ _
 rw [h.n,h.m]
 have hs:=Y6M (p:=p) (i:=i)
 by_cases h1 : j < c
 ·obtain ⟨a1,a2,a3⟩:=h.a i j hi h1
  refine ⟨sgR p i * p.a.getD (i * c + j) 0,by rw [if_pos h1,a1],by rw [if_pos h1,h.sgn,h.A,Rat.intCast_mul], ?_⟩
  rcases hs with e | e <;> rw [e] <;> omega
 ·by_cases h2 : j < c + r
  ·refine ⟨if j - c = i then 1 else 0,by rw [if_neg h1,if_pos h2], ?_,by split <;> decide⟩
   rw [if_neg h1,if_pos h2]
   by_cases e : j = c + i
   ·rw [if_pos e,if_pos (by omega)]; rfl
   ·rw [if_neg e,if_neg (by omega)]; rfl
  ·obtain ⟨b1,b2⟩:=h.b i hi
   refine ⟨sgR p i * p.b.getD i 0,by rw [if_neg h1,if_neg h2],by rw [if_neg h1,if_neg h2,h.sgn,h.B,Rat.intCast_mul], ?_⟩
   rcases hs with e | e <;> rw [e] <;> omega
theorem Z0u {a k : Nat} (h : a ≤ 100) (hk : 7 ≤ k) : a ≤ 2 ^ k:=Nat.le_trans (Nat.le_trans h (by decide : 100 ≤ 2 ^ 7)) (Nat.pow_le_pow_right (by decide) hk)
theorem PD.val {p : Prg} {r c : Nat} (h : PD p r c) {i j : Nat} (hi : i < r) (hj : j ≤ c + r) {k : Nat} (hk : 7 ≤ k) (hk2 : k ≤ 696) : FV (fstM p r c i j) ((ph1 p.lp).A i j) k:=by
 obtain ⟨z,e1,e2,e3⟩:=h.int hi hj
 rw [e1,e2]
 exact FV.ofInt (Z0u e3 hk) hk2
theorem PD.bd {p : Prg} {r c : Nat} (h : PD p r c) : Bd p.lp 100 p.lp.m (p.lp.n + p.lp.m) (ph1 p.lp) 1:=Bd.first fun i j hi hj=>by
 obtain ⟨z,_,e2,e3⟩:=h.int (i:=i) (j:=j) (by rw [← h.m]; exact hi) (by rw [← h.m,← h.n]; exact hj)
 exact ⟨z,e2,e3⟩
theorem PD.cost {p : Prg} {r c : Nat} (h : PD p r c) {j : Nat} (hj : j < c ∨ j = c + r) : ∀ i,i ≤ r → FV (fstC p r c i j) (sm i fun a=>(ph1 p.lp).A a j) (8 * i + 7)
 | 0,_=>FV.ofInt (z:=0) (by decide) (by omega)
 | i + 1,hi=>by
  have ih:=PD.cost h hj i (by omega)
  have:=ih.add (h.val (i:=i) (j:=j) (k:=7) (by omega) (by omega) (by omega) (by omega)) (by have:=h.r20; omega)
  show FV (if j < c ∨ j = c + r then (fstC p r c i j).add (fstM p r c i j) else fstC p r c i j) (sm i _ + _) _
  rw [if_pos hj]
  exact this.mono (by omega)
theorem PD.cost0 {p : Prg} {r c : Nat} {j : Nat} (hj : ¬ (j < c ∨ j = c + r)) : ∀ i,fstC p r c i j = FQ.ofInt 0
 | 0=>rfl
 | i + 1=>by
  show (if j < c ∨ j = c + r then _ else _ : FQ) = _
  rw [if_neg hj]; exact PD.cost0 hj i
theorem Z5O {p : LP} {i : Nat} (hi : i < p.m) : c1 p (p.n + i) = -1:=by unfold c1; rw [if_neg (by omega),if_pos (by omega)]
theorem PD.sr {p : Prg} {r c : Nat} (h : PD p r c) : SR p.lp (c1 p.lp) r (c + r) (fstS p r c) (ph1 p.lp):=by
 refine ⟨fun i hi=>by show c + i = p.lp.n + i; rw [h.n],fun i j hi hj=>h.val hi hj (by omega) (by omega),fun j hj=>?_⟩
 have hg : gain r (ph1 p.lp) (c1 p.lp) j = c1 p.lp j + sm r (fun a=>(ph1 p.lp).A a j):=by
  unfold gain
  rw [Q0p (g:=fun a=>-(ph1 p.lp).A a j) fun a ha=>by
   show c1 p.lp (p.lp.n + a) * _ = _
   rw [Z5O (by rw [h.m]; exact ha)]; grind,Y2c]
  grind
 rw [hg]
 by_cases hjc : j < c ∨ j = c + r
 ·have:=(h.cost hjc r (Nat.le_refl _)).mono (l:=207) (by have:=h.r20; omega)
  have hc0 : c1 p.lp j = 0:=by
   unfold c1
   rw [h.n,h.m]
   rcases hjc with q | q
   ·rw [if_pos q]
   ·rw [if_neg (by omega),if_neg (by omega)]
  rw [hc0]
  exact this.val (by grind) (by
   have e : (0 : Rat) + sm r (fun a=>(ph1 p.lp).A a j) = sm r (fun a=>(ph1 p.lp).A a j):=by grind
   rw [e]; exact this.s)
 ·show FV (fstC p r c r j) _ 207
  rw [PD.cost0 hjc]
  have h1 : c ≤ j ∧ j < c + r:=by omega
  have hc0 : c1 p.lp j = -1:=by unfold c1; rw [h.n,h.m,if_neg (by omega),if_pos (by omega)]
  have hs : sm r (fun a=>(ph1 p.lp).A a j) = 1:=by
   rw [Q4P (k:=j - c) (by omega) fun a ha hne=>?_]
   ·show (if j < p.lp.n then _ else if j < p.lp.n + p.lp.m then (if j = p.lp.n + (j - c) then (1 : Rat) else 0) else _) = 1
    rw [h.n,h.m,if_neg (by omega),if_pos (by omega),if_pos (by omega)]
   ·show (if j < p.lp.n then _ else if j < p.lp.n + p.lp.m then (if j = p.lp.n + a then (1 : Rat) else 0) else _) = 0
    rw [h.n,h.m,if_neg (by omega),if_pos (by omega),if_neg (by omega)]
  rw [hc0,hs]
  exact (FV.ofInt (z:=0) (k:=207) (by decide) (by omega)).val (by show ((0 : Int) : Rat) = _; grind) (by
   have e : (-1 : Rat) + 1 = ((0 : Int) : Rat):=by grind
   rw [e]; exact Sz.int (by decide))
theorem PD.run1 {p : Prg} {r c : Nat} (h : PD p r c) : RunS p.lp (c1 p.lp) r (c + r) (fstS p r c) (ph1 p.lp):=by
 have h1:=Y3v p.lp
 have h2:=Y7k p.lp
 have h3:=h.bd
 rw [h.m,h.n] at h1 h2 h3
 exact ⟨h.sr,h1,h2,_,h3⟩
theorem Y9Q {p : LP} {m N : Nat} {t : Tb} (ht : Tab m N t) (hf : Fea m N t) (hN : N = p.n + p.m) : gain m t (c1 p) N = 0 ↔ ∀ i,i < m → p.n ≤ t.β i → t.A i N = 0:=by
 have e0 : c1 p N = 0:=by unfold c1; rw [if_neg (by omega),if_neg (by omega)]
 have e1 : gain m t (c1 p) N = sm m (fun i=>if p.n ≤ t.β i then t.A i N else 0):=by
  unfold gain
  rw [e0,Q0p (g:=fun i=>-(if p.n ≤ t.β i then t.A i N else 0)) fun i hi=>?_,Y2c]
  ·grind
  ·have hb:=ht.bl i hi
   unfold c1
   by_cases e : p.n ≤ t.β i
   ·rw [if_neg (by omega),if_pos (by omega),if_pos e]; grind
   ·rw [if_pos (by omega),if_neg e]; grind
 rw [e1]
 constructor
 ·intro h i hi hb
  have:=X4P (fun j hj=>by
   show 0 ≤ (if p.n ≤ t.β j then t.A j N else 0)
   split
   ·exact hf j hj
   ·exact Rat.le_refl) h i hi
  simpa [hb] using this
 ·intro h
  exact Q0R fun i hi=>by
   show (if p.n ≤ t.β i then t.A i N else 0) = 0
   split
   ·exact h i hi (by assumption)
   ·rfl
theorem PD.end1 {p : Prg} {r c : Nat} (h : PD p r c) : ∃ K t,stopS r (c + r) false (itS r (c + r) false (fstS p r c) K) = true ∧ (∀ n,n < K → stopS r (c + r) false (itS r (c + r) false (fstS p r c) n) = false) ∧
  RunS p.lp (c1 p.lp) r (c + r) (itS r (c + r) false (fstS p r c) K) t ∧
  (((itS r (c + r) false (fstS p r c) K).cost (c + r)).num = 0 ↔ ∃ x,p.lp.Fx x) ∧ ((∃ x,p.lp.Fx x) → Cl p.lp (c + r) r t):=by
 obtain ⟨K,g1,g2,g3,g4⟩:=runS (L:=1) (deep:=false) (C:=fun _=>c1 p.lp) Lk.flat (by rw [h.m]; exact h.r20) (by rw [h.m]; exact Nat.le_refl _) (c1_ib p.lp) h.run1
 have hK:=g3 K (Nat.le_refl _)
 obtain ⟨k1,k2⟩:=X4N (st:=itT r (c + r) false (fstS p r c) (ph1 p.lp)) h.run1.tab g4 K (Nat.le_refl _)
 refine ⟨K,_,g1,g2,hK, ?_⟩
 have hent:=X7Q hK.sr hK.tab (Lk.flat (p:=p.lp) (c:=c1 p.lp) (N:=c + r))
 have hlv:=fun hlt=>X6L (k:=entS (itS r (c + r) false (fstS p r c) K) r (c + r) false) hK.sr hlt r (Nat.le_refl _)
 have hk2 : ∀ x,Sol p.lp.m (p.lp.n + p.lp.m) (ph1 p.lp).A x ↔ Sol p.lp.m (p.lp.n + p.lp.m) (itT r (c + r) false (fstS p r c) (ph1 p.lp) K).A x:=by rw [h.m,h.n]; exact k2
 have hle : entS (itS r (c + r) false (fstS p r c) K) r (c + r) false ≤ c + r:=Y0V
 have hcost:=hK.sr.cost (c + r) (Nat.le_refl _)
 have ht:=hK.tab
 have hf:=hK.fea
 unfold stopS at g1
 generalize entS (itS r (c + r) false (fstS p r c) K) r (c + r) false = e at *
 generalize itS r (c + r) false (fstS p r c) K = s at *
 generalize itT r (c + r) false (fstS p r c) (ph1 p.lp) K = t at *
 have hm:=h.m
 have hn:=h.n
 have hee : e = c + r:=by
  rcases Nat.lt_or_eq_of_le hle with hlt | q
  ·exfalso
   have he:=hent.1 hlt
   have ht':=ht
   rw [← hn,← hm] at he
   have ht2 : Tab p.lp.m (p.lp.n + p.lp.m) t:=by rw [hn,hm]; exact ht
   obtain ⟨i,hi,hp⟩:=Y2o ht2 (by rw [hm] at he ⊢; exact he)
   have hl:=hlv hlt
   cases e2 : lvS s (c + r) e r with
   | none =>
    rw [e2] at hl
    have:=hl i (by rw [← hm]; exact hi)
    grind
   | some bl =>
    rw [e2] at g1
    simp only [Option.isNone_some,Bool.or_false,decide_eq_true_iff] at g1
    omega
  ·exact q
 have hend:=hent.2 hee
 have hgz:=Y9Q (p:=p.lp) ht hf (by rw [hn,hm])
 have hpe:=Y7l (fr:=fun _=>True) (t:=t) (by rw [hn,hm]; exact ht) (by rw [hn,hm]; exact hf) hk2 (fun _ _=>trivial) (fun j hj _ hb=>by rw [hm] at hb ⊢; exact hend j (by rw [← hm,← hn]; exact hj) hb)
 rw [hcost.num,hgz]
 have e3 : (∀ i,i < r → p.lp.n ≤ t.β i → t.A i (c + r) = 0) ↔ ∃ x,p.lp.Fx x:=by rw [hpe,hm,hn]
 refine ⟨e3,fun hx=>?_⟩
 have:=Cl.first (p:=p.lp) (t:=t) (by rw [hn,hm]; exact ht) (by rw [hn,hm]; exact hf) hk2 (by have q:=e3.2 hx; rw [hn] at q; rw [hm,hn]; exact q)
 rw [hm,hn] at this
 exact this
theorem Y7U {c : Nat} {s : SP} : ∀ {m k l : Nat},k < (kp c s m).length → l < (kp c s m).length → (kp c s m).getD k 0 = (kp c s m).getD l 0 → k = l
 | 0,k,l,hk,_,_=>by cases hk
 | m + 1,k,l,hk,hl,he=>by
  have lt : ∀ k,k < (kp c s m).length → (kp c s m).getD k 0 < m:=fun k hk=>(X6R (c:=c) (m:=m) (s:=s) hk).1
  rw [kp] at hk hl he
  split at hk
  ·rename_i hb
   rw [if_pos hb] at hl he
   rw [List.length_append] at hk hl
   have hk : k < (kp c s m).length + 1:=hk
   have hl : l < (kp c s m).length + 1:=hl
   have g : ∀ k,k < (kp c s m).length + 1 → (kp c s m ++ [m]).getD k 0 = if k < (kp c s m).length then (kp c s m).getD k 0 else m:=fun k hk=>by
    rw [List.getD_eq_getElem?_getD,List.getD_eq_getElem?_getD]
    by_cases e : k < (kp c s m).length
    ·rw [if_pos e,List.getElem?_append_left e]
    ·rw [if_neg e,List.getElem?_append_right (by omega),show k - (kp c s m).length = 0 by omega]; rfl
   rw [g k hk,g l hl] at he
   by_cases e1 : k < (kp c s m).length
   ·by_cases e2 : l < (kp c s m).length
    ·rw [if_pos e1,if_pos e2] at he; exact Y7U e1 e2 he
    ·rw [if_pos e1,if_neg e2] at he; have:=lt k e1; omega
   ·by_cases e2 : l < (kp c s m).length
    ·rw [if_neg e1,if_pos e2] at he; have:=lt l e2; omega
    ·omega
  ·rename_i hb
   rw [if_neg hb] at hl he
   exact Y7U hk hl he
theorem kp_lt {c m : Nat} {s : SP} {a : Nat} (ha : a < m) (hb : s.β a < c) : (kp c s a).length < (kp c s m).length:=by
 obtain ⟨r,hr⟩:=Y7S (c:=c) (s:=s) (i:=a + 1) (m:=m) ha
 rw [hr,kp,if_pos hb,List.length_append,List.length_append]
 show _ < _ + 1 + _
 omega
structure CD (p : Prg) (r c i : Nat) (z : SP) (u : Tb) : Prop where
 sr : SR p.lp (c1 p.lp) r (c + r) z u
 cl : Cl p.lp (c + r) r u
 bd : ∃ δ,Bd p.lp 100 r (c + r) u δ
 nz : ∀ a,a < i → c ≤ u.β a → ∀ j,j < c → u.A a j = 0
theorem PD.cln {p : Prg} {r c : Nat} (h : PD p r c) {s : SP} {t : Tb} (hr : RunS p.lp (c1 p.lp) r (c + r) s t) (hc : Cl p.lp (c + r) r t) : ∀ i,i ≤ r → ∃ u,CD p r c i (cln c s i) u
 | 0,_=>⟨t,hr.sr,hc,hr.bd,fun a ha=>by omega⟩
 | i + 1,hi=>by
  obtain ⟨u,q1,q2,⟨δ,q3⟩,q4⟩:=PD.cln h hr hc i (by omega)
  show ∃ u,CD p r c (i + 1) (clnI c (Go.Proofs.YtchlpclgkhggeaaGreat.cln c s i) i) u
  generalize Go.Proofs.YtchlpclgkhggeaaGreat.cln c s i = z at *
  have hb:=q1.beta i (by omega)
  obtain ⟨f1,f2,f3⟩:=Q0J (P:=fun j=>decide ((z.M i j).num ≠ 0)) (n:=c)
  have hnz : nzR z i c = fstN (fun j=>decide ((z.M i j).num ≠ 0)) c:=rfl
  rw [← hnz] at f1 f2 f3
  unfold clnI
  have hn:=h.n
  by_cases hcs : c ≤ z.β i ∧ nzR z i c < c
  ·rw [if_pos hcs]
   have f3:=f3 hcs.2
   generalize nzR z i c = k at *
   have hM : (z.M i k).num ≠ 0:=of_decide_eq_true f3
   have h0 : u.A i k ≠ 0:=fun e=>hM ((q1.val i k (by omega) (by omega)).num.2 e)
   refine ⟨u.piv i k,q1.piv q2.tab q3 (by rw [h.m]; exact h.r20) (by rw [h.m]; exact Nat.le_refl _) (c1_ib p.lp) (by omega) (by omega) h0,q2.piv (by omega) (by rw [hn,← hb]; exact hcs.1) (by rw [hn]; exact hcs.2) h0,⟨_,q3.piv (by omega) (by omega) h0⟩,fun a ha hba j hj=>?_⟩
   have hba : c ≤ if a = i then k else u.β a:=hba
   by_cases e : a = i
   ·rw [if_pos e] at hba; omega
   ·rw [if_neg e] at hba
    show (if a = i then u.q i k j else u.A a j - u.A a k * u.q i k j) = 0
    rw [if_neg e,q4 a (by omega) hba j hj,q4 a (by omega) hba k (by omega)]; grind
  ·rw [if_neg hcs]
   refine ⟨u,q1,q2,⟨δ,q3⟩,fun a ha hba j hj=>?_⟩
   by_cases e : a = i
   ·subst e
    have hk : c ≤ nzR z a c:=by omega
    have:=f2 j (by omega)
    have hM : (z.M a j).num = 0:=by simpa using this
    exact (q1.val a j (by omega) (by omega)).num.1 hM
   ·exact q4 a (by omega) hba j hj
def kapI (c r j : Nat) : Nat:=if j < c then j else c + r
def tb2 (c r : Nat) (z : SP) (u : Tb) : Tb:=⟨fun k j=>u.A (kpI c r z k) (kapI c r j),fun k=>u.β (kpI c r z k)⟩
theorem c_ib {p : Prg} {r c : Nat} (h : PD p r c) (j : Nat) : IB (p.lp.c j) 100:=by
 rw [h.C]
 obtain ⟨h1,h2⟩:=h.cc j
 exact ⟨_,rfl,by omega⟩
theorem PD.run2 {p : Prg} {r c : Nat} (h : PD p r c) {z : SP} {u : Tb} (q : CD p r c r z u) : Ph2 p.lp c (kp c z r).length (tb2 c r z u) ∧ RunS p.lp p.lp.c (kp c z r).length c (secS p c r (c + r) z) (tb2 c r z u):=by
 obtain ⟨q1,q2,⟨δ,q3⟩,q4⟩:=q
 have hn:=h.n
 have hm:=h.m
 have hsp:=fun k=>X6R (c:=c) (m:=r) (s:=z) (k:=k)
 have hle : (kp c z r).length ≤ r:=kp_le
 have hbe : ∀ k,k < (kp c z r).length → u.β (kpI c r z k) < c:=fun k hk=>by rw [← q1.beta _ (hsp k hk).1]; exact (hsp k hk).2
 have k1 : ∀ j,j < c → kapI c r j = j:=fun j hj=>if_pos hj
 have k2 : kapI c r c = c + r:=if_neg (Nat.lt_irrefl _)
 have hinj : ∀ i k,i < (kp c z r).length → k < (kp c z r).length → kpI c r z i = kpI c r z k → i = k:=fun i k hi hk e=>Y7U hi hk e
 have hcl : Cl p.lp c (kp c z r).length (tb2 c r z u):=by
  refine q2.rows (kpI c r z) (kapI c r) (fun k hk=>(hsp k hk).1) hinj (fun a ha=>?_) (fun j hj=>k1 j (by omega)) k2 (by omega) (fun k hk=>⟨hbe k hk,k1 _ (hbe k hk)⟩)
  by_cases e : z.β a < c
  ·exact .inl ⟨_,kp_lt ha e,Z0w ha e⟩
  ·have hba : c ≤ u.β a:=by rw [← q1.beta a ha]; omega
   exact .inr ⟨fun j hj=>q4 a ha hba j (by omega),q2.z a ha (by omega)⟩
 have hph:=hcl.ph2 (fun k hk=>by rw [hn]; exact hbe k hk)
 have hbd : Bd p.lp 100 (kp c z r).length c (tb2 c r z u) δ:=q3.sub (kpI c r z) (kapI c r) (fun k hk=>(hsp k hk).1) hinj (fun j hj=>by unfold kapI; split <;> omega) (fun j hj=>by rw [k1 j hj]; omega) (fun i j hi hj=>rfl)
 refine ⟨hph, ?_,hcl.tab,hcl.fea,_,hbd⟩
 have hval : ∀ i j,i < (kp c z r).length → j ≤ c → FV (secM c r (c + r) z i j) ((tb2 c r z u).A i j) 195:=fun i j hi hj=>by
  show FV (if j < c then z.M (kpI c r z i) j else z.M (kpI c r z i) (c + r)) (u.A (kpI c r z i) (kapI c r j)) 195
  by_cases e : j < c
  ·rw [if_pos e,k1 j e]; exact q1.val _ j (hsp i hi).1 (by omega)
  ·rw [if_neg e,show j = c by omega,k2]; exact q1.val _ _ (hsp i hi).1 (by omega)
 have hbeta : ∀ i,i < (kp c z r).length → secB c r z i = (tb2 c r z u).β i:=fun i hi=>q1.beta _ (hsp i hi).1
 refine ⟨hbeta,hval,fun j hj=>?_⟩
 have ht:=hcl.tab
 generalize tb2 c r z u = t at *
 have key : ∀ k,k ≤ (kp c z r).length → ∀ j,j ≤ c → FV (secC p c r (c + r) z k j) (p.lp.c j - sm k (fun i=>p.lp.c (t.β i) * t.A i j)) 207:=by
  intro k
  induction k with
  | zero =>
   intro _ j hj
   show FV (if j < c then FQ.ofInt (p.c.getD j 0) else FQ.ofInt 0) (p.lp.c j - 0) 207
   have e0 : p.lp.c j - 0 = p.lp.c j:=by grind
   rw [e0,h.C]
   obtain ⟨a1,a2⟩:=h.cc j
   by_cases e : j < c
   ·rw [if_pos e]; exact FV.ofInt (Z0u (by omega) (by omega)) (by omega)
   ·rw [if_neg e,show j = c by omega,h.cn]; exact FV.ofInt (z:=0) (Nat.zero_le _) (by omega)
  | succ k ih =>
   intro hk j hj
   have ih:=ih (by omega)
   have hbk:=hbe k (by omega)
   have hb1 : secB c r z k = t.β k:=hbeta k (by omega)
   have hbl:=ht.bl k (by omega)
   show FV (clrF (secC p c r (c + r) z k) (secM c r (c + r) z k) (secB c r z k) j) _ 207
   rw [hb1]
   have e1 : sm k (fun i=>p.lp.c (t.β i) * t.A i (t.β k)) = 0:=Q0R fun i hi=>by
    rw [ht.un i k (by omega) (by omega),if_neg (by omega)]; grind
   have e2 : p.lp.c j - sm k (fun i=>p.lp.c (t.β i) * t.A i j) - (p.lp.c (t.β k) - sm k (fun i=>p.lp.c (t.β i) * t.A i (t.β k))) * t.A k j = p.lp.c j - sm (k + 1) (fun i=>p.lp.c (t.β i) * t.A i j):=by
    rw [e1,show sm (k + 1) (fun i=>p.lp.c (t.β i) * t.A i j) = sm k (fun i=>p.lp.c (t.β i) * t.A i j) + p.lp.c (t.β k) * t.A k j from rfl]
    generalize sm k (fun i=>p.lp.c (t.β i) * t.A i j) = x
    grind
   have hsz:=hbd.szg (by rw [hm]; exact h.r20) (by rw [hm]; exact hle) (c_ib h) (s:=k + 1) hk hj
   have:=Y1p (a:=fun j=>p.lp.c j - sm k (fun i=>p.lp.c (t.β i) * t.A i j)) (q:=fun j=>t.A k j) (ih (t.β k) (by omega)) (ih j hj) (hval k j (by omega) hj) (Nat.le_refl 207) (by
    show Sz (p.lp.c j - sm k (fun i=>p.lp.c (t.β i) * t.A i j) - (p.lp.c (t.β k) - sm k (fun i=>p.lp.c (t.β i) * t.A i (t.β k))) * t.A k j) 207
    rw [e2]; exact hsz)
   exact this.val e2 hsz
 exact key _ (Nat.le_refl _) j hj
end Go.Proofs.YtchlpclgkhggeaaGreat