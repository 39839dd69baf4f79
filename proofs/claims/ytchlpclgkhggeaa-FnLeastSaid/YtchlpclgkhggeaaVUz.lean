/- part of the proof -/
import Derived.Test.YtchlpclgkhggeaaVUv
import Derived.Test.YtchlpclgkhggeaaVUm
import Derived.Test.YtchlpclgkhggeaaVKa
import Derived.Test.YtchlpclgkhggeaaVXi
namespace Go.Proofs.Ytchlpclgkhggeaa
open Go Go.RowKit
set_option maxRecDepth 100000
set_option maxHeartbeats 4000000
set_option linter.unusedVariables false
set_option linter.unusedSimpArgs false
def aV (p : Prg) (c k : Nat) : List Int:=(List.range k).map fun t=>p.a.getD (t / c * c + (c - 1 - t % c)) 0
def cV (p : Prg) (c k : Nat) : List Int:=(List.range k).map fun t=>p.c.getD (c - 1 - t) 0
def revP (p : Prg) : Prg:=⟨p.rows,p.cols,aV p p.cols.toNat (p.rows.toNat * p.cols.toNat),p.b,cV p p.cols.toNat p.cols.toNat⟩
theorem X3p {p : Prg} {c k : Nat} : (aV p c k).length = k:=by unfold aV; rw [List.length_map,List.length_range]
theorem X3l {p : Prg} {c k : Nat} : (cV p c k).length = k:=by unfold cV; rw [List.length_map,List.length_range]
theorem Y1b {p : Prg} {c i m : Nat} (hm : m < c) : aV p c (i * c + m + 1) = aV p c (i * c + m) ++ [p.a.getD (i * c + (c - 1 - m)) 0]:=by
 unfold aV
 rw [List.range_succ,List.map_append,List.map_singleton]
 have e1 : (i * c + m) / c = i:=by rw [Nat.mul_comm,Nat.mul_add_div (by omega),Nat.div_eq_of_lt hm,Nat.add_zero]
 have e2 : (i * c + m) % c = m:=by rw [Nat.mul_comm,Nat.mul_add_mod,Nat.mod_eq_of_lt hm]
 rw [e1,e2]
theorem Y4Y {p : Prg} {c i m k : Nat} (hm : m < c) (hk : i * c + m < k) : (aV p c k).getD (i * c + m) 0 = p.a.getD (i * c + (c - 1 - m)) 0:=by
 have e1 : (i * c + m) / c = i:=by rw [Nat.mul_comm,Nat.mul_add_div (by omega),Nat.div_eq_of_lt hm,Nat.add_zero]
 have e2 : (i * c + m) % c = m:=by rw [Nat.mul_comm,Nat.mul_add_mod,Nat.mod_eq_of_lt hm]
 unfold aV
 rw [List.getD_eq_getElem?_getD,List.getElem?_map,List.getElem?_range hk]
 show p.a.getD ((i * c + m) / c * c + (c - 1 - (i * c + m) % c)) 0 = _
 rw [e1,e2]
theorem Y0V {p : Prg} {c m : Nat} : cV p c (m + 1) = cV p c m ++ [p.c.getD (c - 1 - m) 0]:=by
 unfold cV
 rw [List.range_succ,List.map_append,List.map_singleton]
theorem Y4G {p : Prg} {c m k : Nat} (hk : m < k) : (cV p c k).getD m 0 = p.c.getD (c - 1 - m) 0:=by
 unfold cV
 rw [List.getD_eq_getElem?_getD,List.getElem?_map,List.getElem?_range hk]; rfl
theorem X5S {f : Nat → Rat} : ∀ {n : Nat},sm n f = sm n (fun j=>f (n - 1 - j))
 | 0=>rfl
 | n + 1=>by
  have e : sm (n + 1) (fun j=>f (n + 1 - 1 - j)) = sm (1 + n) (fun j=>f (n + 1 - 1 - j)):=by rw [Nat.add_comm]
  rw [e,X1I (n:=1) (d:=n)]
  have e1 : sm 1 (fun j=>f (n + 1 - 1 - j)) = f n:=by
   show (0 : Rat) + f (n + 1 - 1 - 0) = f n
   rw [show n + 1 - 1 - 0 = n by omega]; grind
  have e2 : sm n (fun j=>f (n + 1 - 1 - (1 + j))) = sm n f:=by
   rw [@X5S f n]
   exact Q0e fun j _=>by rw [show n + 1 - 1 - (1 + j) = n - 1 - j by omega]
  rw [e1,e2]
  show sm n f + f n = _
  grind
structure Rev (P Q : LP) (c : Nat) : Prop where
 n : P.n = c
 n' : Q.n = c
 m : Q.m = P.m
 A : ∀ i j,i < P.m → j < c → Q.A i j = P.A i (c - 1 - j)
 b : ∀ i,i < P.m → Q.b i = P.b i
 c : ∀ j,j < c → Q.c j = P.c (c - 1 - j)
theorem Rev.symm {P Q : LP} {c : Nat} (h : Rev P Q c) : Rev Q P c :=
 ⟨h.n',h.n,h.m.symm,fun i j hi hj=>by rw [h.A i (c - 1 - j) (by rw [← h.m]; exact hi) (by omega),show c - 1 - (c - 1 - j) = j by omega],fun i hi=>(h.b i (by rw [← h.m]; exact hi)).symm,fun j hj=>by rw [h.c (c - 1 - j) (by omega),show c - 1 - (c - 1 - j) = j by omega]⟩
theorem Rev.row {P Q : LP} {c : Nat} (h : Rev P Q c) {i : Nat} (hi : i < P.m) (x : Nat → Rat) : sm Q.n (fun j=>Q.A i j * x (c - 1 - j)) = sm P.n (fun j=>P.A i j * x j):=by
 rw [h.n,h.n',@X5S (fun j=>P.A i j * x j) c]
 exact Q0e fun j hj=>by rw [h.A i j hi hj]
theorem Rev.obj {P Q : LP} {c : Nat} (h : Rev P Q c) (x : Nat → Rat) : sm Q.n (fun j=>Q.c j * x (c - 1 - j)) = sm P.n (fun j=>P.c j * x j):=by
 rw [h.n,h.n',@X5S (fun j=>P.c j * x j) c]
 exact Q0e fun j hj=>by rw [h.c j hj]
theorem Rev.fx {P Q : LP} {c : Nat} (h : Rev P Q c) {x : Nat → Rat} (hx : P.Fx x) : Q.Fx (fun j=>x (c - 1 - j)):=by
 refine ⟨fun i hi=>?_,fun j hj=>hx.2 _ (by rw [h.n]; rw [h.n'] at hj; omega)⟩
 rw [h.m] at hi
 rw [h.row hi,h.b i hi]; exact hx.1 i hi
theorem Rev.opn {P Q : LP} {c : Nat} (h : Rev P Q c) (ho : P.Open) : Q.Open:=by
 obtain ⟨⟨x,hx⟩,d,h1,h2,h3⟩:=ho
 refine ⟨⟨_,h.fx hx⟩,fun j=>d (c - 1 - j),fun i hi=>?_,fun j hj=>h2 _ (by rw [h.n]; rw [h.n'] at hj; omega), ?_⟩
 ·rw [h.m] at hi
  rw [h.row hi]; exact h1 i hi
 ·rw [h.obj]; exact h3
theorem Rev.lex {P Q : LP} {c : Nat} (h : Rev P Q c) {X Y : Nat → Rat} (hX : P.Best X) (hY : Q.Best Y) : P.v X = Q.v Y ∧ ∀ j,j < c → (∀ k,k < j → X k = Y (c - 1 - k)) → X j ≤ Y (c - 1 - j):=by
 have h1:=hX.max (h.symm.fx hY.1)
 have h2:=hY.max (h.fx hX.1)
 have e1 : P.v (fun j=>Y (c - 1 - j)) = Q.v Y:=h.symm.obj Y
 have e2 : Q.v (fun j=>X (c - 1 - j)) = P.v X:=h.obj X
 rw [e1] at h1
 rw [e2] at h2
 have e : P.v X = Q.v Y:=by grind
 refine ⟨e,fun j hj hk=>?_⟩
 rcases Q0j (Y (c - 1 - j)) (X j) with q | q
 ·refine absurd ⟨j + 1,by rw [h.n]; omega, ?_,fun k hk2=>?_⟩ (hX.2 _ (h.symm.fx hY.1))
  ·simp only
   rw [LP.C_val (by rw [h.n]; exact hj),LP.C_val (by rw [h.n]; exact hj)]; grind
  ·cases k with
   | zero =>
    show P.v (fun j=>Y (c - 1 - j)) - P.v X = 0
    rw [e1]; grind
   | succ k =>
    simp only
    rw [LP.C_val (by rw [h.n]; omega),LP.C_val (by rw [h.n]; omega),hk k (by omega)]; grind
 ·exact q
theorem X8u {p : Prg} {r c : Nat} (hr : p.rows = r) (hc : p.cols = c) : Rev p.lp (revP p).lp c:=by
 have er : p.rows.toNat = r:=by omega
 have ec : p.cols.toNat = c:=by omega
 refine ⟨ec,ec,rfl,fun i j hi hj=>?_,fun _ _=>rfl,fun j hj=>?_⟩
 ·have hi : i < r:=by rw [← er]; exact hi
  show (((aV p p.cols.toNat (p.rows.toNat * p.cols.toNat)).getD (i * p.cols.toNat + j) 0 : Int) : Rat) = ((p.a.getD (i * p.cols.toNat + (c - 1 - j)) 0 : Int) : Rat)
  rw [ec,er,Y4Y hj (X9l hi hj)]
 ·show (((cV p p.cols.toNat p.cols.toNat).getD j 0 : Int) : Rat) = ((p.c.getD (c - 1 - j) 0 : Int) : Rat)
  rw [ec,Y4G hj]
theorem X4O {l : List Int} (h : inB (-100) 100 l = true) (i : Nat) : -100 ≤ l.getD i 0 ∧ l.getD i 0 ≤ 100:=by
 by_cases e : i < l.length
 ·exact Q8L h e
 ·rw [List.getD_eq_getElem?_getD,List.getElem?_eq_none (by omega)]; exact ⟨by decide,by decide⟩
theorem X1N {p : Prg} (ho : okP' p = true) : okP' (revP p) = true:=by
 obtain ⟨hr,hc,hal,hbl,hcl,ia,ib,ic⟩:=Q1t ho
 have h1 : (p.rows.toNat : Int) = p.rows:=by omega
 have h2 : (p.cols.toNat : Int) = p.cols:=by omega
 refine Y3A hr hc ?_ hbl ?_ ?_ ib ?_
 ·show ((aV p p.cols.toNat (p.rows.toNat * p.cols.toNat)).length : Int) = p.rows * p.cols
  rw [X3p,Int.natCast_mul,h1,h2]
 ·show ((cV p p.cols.toNat p.cols.toNat).length : Int) = p.cols
  rw [X3l,h2]
 ·show inB (-100) 100 (aV p p.cols.toNat (p.rows.toNat * p.cols.toNat)) = true
  unfold inB aV
  rw [List.all_eq_true]
  intro x hx
  obtain ⟨k,_,rfl⟩:=List.mem_map.1 hx
  exact decide_eq_true (X4O ia _)
 ·show inB (-100) 100 (cV p p.cols.toNat p.cols.toNat) = true
  unfold inB cV
  rw [List.all_eq_true]
  intro x hx
  obtain ⟨k,_,rfl⟩:=List.mem_map.1 hx
  exact decide_eq_true (X4O ic _)
theorem X3M {p : Prg} {r c : Nat} (ho : okP' p = true) (hr : p.rows = r) (hc : p.cols = c) (r3 : r ≤ 3) (c5 : c ≤ 5) :
  (∃ (g h : Nat → FQ) (w : FQ),solP p = ⟨0,(rowQ c g).map qd,qd w⟩ ∧ solP (revP p) = ⟨0,(rowQ c h).map qd,qd w⟩ ∧ (∀ j,j < c → (g j).good = true ∧ (h j).good = true) ∧
   ∀ j,j < c → (∀ k,k < j → (g k).cmp (h (c - 1 - k)) = 0) → (g j).cmp (h (c - 1 - j)) ≤ 0) ∨
  (∃ z : Int,z ≠ 0 ∧ solP p = ⟨z,[],RD.zero⟩ ∧ solP (revP p) = ⟨z,[],RD.zero⟩):=by
 have hd:=PD.mk' ho hr hc
 have hoq:=X1N ho
 have hdq:=PD.mk' (p:=revP p) hoq hr hc
 have hv:=X8u hr hc
 have ec : p.cols.toNat = c:=by omega
 have ec' : (revP p).cols.toNat = c:=ec
 rcases X1H ho with ⟨X,hX,e⟩ | ⟨h1,h2,e⟩ | ⟨h1,e⟩
 ·rcases X1H hoq with ⟨Y,hY,e'⟩ | ⟨h1',h2',e'⟩ | ⟨h1',e'⟩
  ·rw [ec] at e
   rw [ec'] at e'
   obtain ⟨q1,q2⟩:=hv.lex hX hY
   have hs:=hd.best_sz hX (X9z r3)
   have hs':=hdq.best_sz hY (X9z r3)
   have hf : ∀ j,j < c → FV (FQ.fit (X j)) (X j) 27:=fun j hj=>⟨Q7Z (hs j hj) (by decide),hs j hj⟩
   have hf' : ∀ j,j < c → FV (FQ.fit (Y j)) (Y j) 27:=fun j hj=>⟨Q7Z (hs' j hj) (by decide),hs' j hj⟩
   refine .inl ⟨fun j=>FQ.fit (X j),fun j=>FQ.fit (Y j),FQ.fit (p.lp.v X),e,by rw [e',q1],fun j hj=>⟨(hf j hj).good,(hf' j hj).good⟩,fun j hj hk=>?_⟩
   exact Y0G (hf j hj) (hf' _ (by omega)) (q2 j hj fun k hkj=>((hf k (by omega)).cmp_eq (hf' _ (by omega))).1 (hk k hkj))
  ·exact absurd hX fun q=>(hv.symm.opn (hdq.open' h1' h2')).not_best q
  ·exact absurd ⟨_,hv.fx hX.1⟩ h1'
 ·rcases X1H hoq with ⟨Y,hY,e'⟩ | ⟨h1',h2',e'⟩ | ⟨h1',e'⟩
  ·exact absurd hY fun q=>(hv.opn (hd.open' h1 h2)).not_best q
  ·exact .inr ⟨3,by decide,e,e'⟩
  ·obtain ⟨x,hx⟩:=h1
   exact absurd ⟨_,hv.fx hx⟩ h1'
 ·rcases X1H hoq with ⟨Y,hY,e'⟩ | ⟨⟨y,hy⟩,h2',e'⟩ | ⟨h1',e'⟩
  ·exact absurd ⟨_,hv.symm.fx hY.1⟩ h1
  ·exact absurd ⟨_,hv.symm.fx hy⟩ h1
  ·exact .inr ⟨2,by decide,e,e'⟩
theorem X7S (l : List Int) : PC PP Q0I [byV .s l] (Bo true) []:=by
 by_cases hl : l.length ≤ 1048576
 ·have q1:=X2n l hl
  obtain ⟨ho,r,c,hr,hc,_,r3,_,c5⟩:=Y0I l (CS.new l)
  generalize drwP l (CS.new l) = p at *
  have hp:=X0e ho
  have hlf:=X3M ho hr hc r3 c5
  have q2:=Q3w .s fls p hp
  have q3:=Q3w .b flb (revP p) (X0e (X1N ho))
  have q4:=Q5e .b flb (revP p) (X0e (X1N ho))
  rw [X1N ho] at q4
  have hsm:=X5g p
  generalize solP p = R at *
  generalize solP (revP p) = T at *
  have e1 : p.rows.toNat = r:=by omega
  have e2 : p.cols.toNat = c:=by omega
  rw [show revP p = ⟨p.rows,p.cols,aV p c (r * c),p.b,cV p c c⟩ by unfold revP; rw [e1,e2]] at q3 q4
  clear e1 e2
  have hn : ¬ (l.length : Int) > 1048576:=by omega
  have hA:=fun i m=>@Y1b p c i m
  have hCs:=fun m=>@Y0V p c m
  have hAl:=fun k=>@X3p p c k
  have hCl:=fun k=>@X3l p c k
  obtain ⟨⟨r1,r2⟩,⟨c1,c2⟩,hal,hbl,hcl,ia,ib,ic⟩:=Q1t ho
  have hA0 : aV p c 0 = []:=rfl
  have hC0 : cV p c 0 = []:=rfl
  generalize aV p c = AV at *
  generalize cV p c = CV at *
  obtain ⟨pr,pc,la,lb,lc⟩:=p
  simp only at hr hc hal hbl hcl ia ib ic hA hCs
  subst hr hc
  have hrc : r * c ≤ 3 * 5:=Nat.mul_le_mul r3 c5
  have hal : la.length = r * c:=by exact_mod_cast hal
  simp only [reV,reC,pV,pC] at q2 q3 q4
  refine tx Q6V Q3p [] (by kernel_rfl) ?_
  simp -dsimp(disch:=first|exact om|fail)only[go_sem,simprocAttr,xE,xN,xC,xP,xA,xZ,hn]
  refine callP q1 lL ?_
  simp -dsimp(disch:=first|exact om|fail)only[go_sem,simprocAttr,xE,xN,xC,xP,xA,xZ,pC]
  refine callP q2 (by simp -dsimp(disch:=first|exact om|fail)only[go_sem,simprocAttr,xE,xN,xC,xP,xA,xZ,pC]) ?_
  simp -dsimp(disch:=first|exact om|fail)only[go_sem,simprocAttr,xE,xN,xC,xP,xA,xZ,pC]
  refine loopJ (fun i : Nat=>i ≤ r) (fun i=>⟨[(3,.ref 0 0),(4,.ref 1 0),(5,.ref 2 0),(6,I i)],[⟨.own,Q0n,[I r,I c,sI .s la,sI .s lb,sI .s lc]⟩,⟨.own,Q0U,[I R.code,sR .s R.x,Bo R.value.neg,sI .s R.value.mag,sI .s R.value.den]⟩,⟨.own,Q0n,[I r,I c,.rsl 3 1 0 (i * c),sI .s lb,.emp]⟩,⟨.own,T_int,iC (AV (i * c))⟩]⟩) (fun i=>r - i) 0 (by omega) ?_ ?_
  ·rw [Nat.zero_mul,hA0]
   refine StI.ren [some 0,some 1,some 2,none] [[],[],[],[]] lE (by decide) ?_ lW
   simp -dsimp(disch:=first|exact om|fail)only[go_sem,simprocAttr,xE,xN,xC,xP,xA,xZ]
   rfl
  intro i hi
  by_cases h : i < r
  ·simp -dsimp(disch:=first|exact om|fail)only[go_sem,simprocAttr,xE,xN,xC,xP,xA,xZ,h]
   have hi1 : i * c + c ≤ r * c:=by have:=Nat.mul_le_mul_right c (show i + 1 ≤ r by omega); rwa [Nat.add_mul,Nat.one_mul] at this
   refine loopJ (fun m : Nat=>m ≤ c) (fun m=>⟨[(3,.ref 0 0),(4,.ref 1 0),(5,.ref 2 0),(6,I i),(7,I ((c : Int) - 1 - m))],[⟨.own,Q0n,[I r,I c,sI .s la,sI .s lb,sI .s lc]⟩,⟨.own,Q0U,[I R.code,sR .s R.x,Bo R.value.neg,sI .s R.value.mag,sI .s R.value.den]⟩,⟨.own,Q0n,[I r,I c,.rsl 3 1 0 (i * c + m),sI .s lb,.emp]⟩,⟨.own,T_int,iC (AV (i * c + m))⟩]⟩) (fun m=>c - m) 0 (by omega) ?_ ?_
   ·refine StI.ren [some 0,some 1,some 2,some 3] [[],[],[],[]] lE (by decide) lW lW
   intro m hm
   by_cases h2 : m < c
   ·have e0 : (i : Int) * c + (c - 1 - m) = ((i * c + (c - 1 - m) : Nat) : Int):=by
     rw [Int.natCast_add,Int.natCast_mul]; omega
    have e1 : (i : Int) * c = ((i * c : Nat) : Int):=(Int.natCast_mul i c).symm
    have hs:=hA i m h2
    have h3 : (0 : Int) ≤ c - 1 - m:=by omega
    have w1 : IntKind.wrap .i64 ((i : Int) * c) = ((i * c : Nat) : Int):=by rw [e1]; exact w64 (by omega)
    have w2 : IntKind.wrap .i64 (((i * c : Nat) : Int) + (c - 1 - m)) = ((i * c + (c - 1 - m) : Nat) : Int):=by rw [← e1,e0]; exact w64 (by omega)
    simp -dsimp(disch:=first|exact om|fail)only[go_sem,simprocAttr,xE,xN,xC,xP,xA,xZ,h2,h3,w1,w2]
    refine ⟨hAl _,m + 1,by omega,by omega,StI.ren [some 0,some 1,some 2,some 4] [[],[],[],[]] lE (by decide) ?_ lW⟩
    rw [show i * c + (m + 1) = i * c + m + 1 by omega,hs]
    simp -dsimp(disch:=first|exact om|fail)only[go_sem,simprocAttr,xE,xN,xC,xP,xA,xZ,show (c : Int) - 1 - ((m + 1 : Nat) : Int) = c - 1 - m - 1 by omega]
   ·obtain rfl : m = c:=by omega
    have h3 : ¬ (0 : Int) ≤ (m : Int) - 1 - m:=by omega
    simp -dsimp(disch:=first|exact om|fail)only[go_sem,simprocAttr,xE,xN,xC,xP,xA,xZ,h3]
    refine ⟨i + 1,by omega,by omega,StI.ren [some 0,some 1,some 2,some 3] [[],[],[],[]] lE (by decide) ?_ lW⟩
    rw [show (i + 1) * m = i * m + m by rw [Nat.add_mul,Nat.one_mul]]
    simp -dsimp(disch:=first|exact om|fail)only[go_sem,simprocAttr,xE,xN,xC,xP,xA,xZ]
  ·obtain rfl : i = r:=by omega
   simp -dsimp(disch:=first|exact om|fail)only[go_sem,simprocAttr,xE,xN,xC,xP,xA,xZ]
   refine loopJ (fun m : Nat=>m ≤ c) (fun m=>⟨[(3,.ref 0 0),(4,.ref 1 0),(5,.ref 2 0),(8,I ((c : Int) - 1 - m))],[⟨.own,Q0n,[I i,I c,sI .s la,sI .s lb,sI .s lc]⟩,⟨.own,Q0U,[I R.code,sR .s R.x,Bo R.value.neg,sI .s R.value.mag,sI .s R.value.den]⟩,⟨.own,Q0n,[I i,I c,.rsl 3 1 0 (i * c),sI .s lb,.rsl 4 1 0 m]⟩,⟨.own,T_int,iC (AV (i * c))⟩,⟨.own,T_int,iC (CV m)⟩]⟩) (fun m=>c - m) 0 (by omega) ?_ ?_
   ·rw [hC0]
    refine StI.ren [some 0,some 1,some 2,some 3,none] [[],[],[],[],[]] lE (by decide) ?_ lW
    simp -dsimp(disch:=first|exact om|fail)only[go_sem,simprocAttr,xE,xN,xC,xP,xA,xZ]
    rfl
   intro m hm
   by_cases h2 : m < c
   ·have hs:=hCs m
    have h3 : (0 : Int) ≤ c - 1 - m:=by omega
    have e3 : (c : Int) - 1 - m = ((c - 1 - m : Nat) : Int):=by omega
    simp -dsimp(disch:=first|exact om|fail)only[go_sem,simprocAttr,xE,xN,xC,xP,xA,xZ,h2,h3,hcl]
    refine ⟨hCl _,m + 1,by omega,by omega,StI.ren [some 0,some 1,some 2,some 3,some 5] [[],[],[],[],[]] lE (by decide) ?_ lW⟩
    rw [hs,show (c - 1 - m : Nat) = ((c : Int) - 1 - m).toNat by omega]
    simp -dsimp(disch:=first|exact om|fail)only[go_sem,simprocAttr,xE,xN,xC,xP,xA,xZ,show (c : Int) - 1 - ((m + 1 : Nat) : Int) = c - 1 - m - 1 by omega]
   ·obtain rfl : m = c:=by omega
    have h3 : ¬ (0 : Int) ≤ (m : Int) - 1 - m:=by omega
    simp -dsimp(disch:=first|exact om|fail)only[go_sem,simprocAttr,xE,xN,xC,xP,xA,xZ,h3]
    have hle : ∀ H : List Ob,H[3]? = some ⟨.own,T_int,iC (AV (i * m))⟩ → H[4]? = some ⟨.own,T_int,iC (CV m)⟩ → LeL H .b [.agg [I i,I m,.rsl 3 1 0 (i * m),sI .s lb,.rsl 4 1 0 m]] [.agg [I i,I m,sI .b (AV (i * m)),sI .b lb,sI .b (CV m)]]:=fun H h3 h4=>by
     refine .cons _ _ _ _ (.agg _ _ (.cons _ _ _ _ (.lit _) (.cons _ _ _ _ (.lit _) (.cons _ _ _ _ (Le.ownI0 h3 (hAl _).symm) (.cons _ _ _ _ ?_ (.cons _ _ _ _ (Le.ownI0 h4 (hCl _).symm) .nil)))))) .nil
     simp -dsimp(disch:=first|exact om|fail)only[go_sem,simprocAttr,xE,xN,xC,xP,xA,xZ]
    refine callP q3 (hle _ rfl rfl) ?_
    clear hAl hCl hA hCs
    rcases hlf with ⟨g,h',w,rfl,rfl,hgd,hcm⟩ | ⟨z,hz,rfl,rfl⟩
    ·have q5:=Q3x .s .s fls fls (qd w) (qd w) (Q6t _).fit (Q6t _).fit
     rw [decide_eq_true rfl] at q5
     have hL1 : ((rowQ m g).map qd).length = m:=by rw [List.length_map,Q0r]
     have hL2 : ((rowQ m h').map qd).length = m:=by rw [List.length_map,Q0r]
     have hg1 : ∀ j,j < m → ((rowQ m g).map qd).getD j RD.zero = qd (g j):=fun j hj=>by rw [Q7h (OM.mk (by rw [Q0r]; exact hj)),Q6q hj]
     have hg2 : ∀ j,j < m → ((rowQ m h').map qd).getD j RD.zero = qd (h' j):=fun j hj=>by rw [Q7h (OM.mk (by rw [Q0r]; exact hj)),Q6q hj]
     have q6:=Q7Y .s .s fls fls ⟨0,(rowQ m g).map qd,qd w⟩ ⟨0,(rowQ m g).map qd,qd w⟩ hsm hsm
     rw [decide_eq_true rfl] at q6
     simp only [reV,reC] at q6
     generalize (rowQ m g).map qd = L1 at *
     generalize (rowQ m h').map qd = L2 at *
     simp -dsimp(disch:=first|exact om|fail)only[go_sem,simprocAttr,xE,xN,xC,xP,xA,xZ,hL1,hL2]
     refine callP q5 lL ?_
     simp -dsimp(disch:=first|exact om|fail)only[go_sem,simprocAttr,xE,xN,xC,xP,xA,xZ]
     refine loopJ (fun j : Nat=>j ≤ m ∧ ∀ k,k < j → (g k).cmp (h' (m - 1 - k)) = 0) (fun j=>⟨[(3,.ref 0 0),(4,.ref 1 0),(9,.ref 2 0),(10,I j)],[⟨.own,Q0n,[I i,I m,sI .s la,sI .s lb,sI .s lc]⟩,⟨.own,Q0U,[I 0,sR .s L1,Bo (qd w).neg,sI .s (qd w).mag,sI .s (qd w).den]⟩,⟨.own,Q0U,[I 0,sR .s L2,Bo (qd w).neg,sI .s (qd w).mag,sI .s (qd w).den]⟩]⟩) (fun j=>m - j) 0 ⟨by omega,fun k hk=>absurd hk (by omega)⟩ ?_ ?_
     ·refine StI.ren [some 0,some 1,some 5] [[],[],[]] lE (by decide) lW lW
     rintro j ⟨hj,hjk⟩
     by_cases h5 : j < m
     ·have hc1:=hcm j h5 hjk
      have h6 : (m : Int) - 1 - j = ((m - 1 - j : Nat) : Int):=by omega
      have h7 : m - 1 - j < m:=by omega
      have q7:=X1V (g j) (h' (m - 1 - j)) (hgd j h5).1 (hgd _ h7).2
      simp -dsimp(disch:=first|exact om|fail)only[go_sem,simprocAttr,xE,xN,xC,xP,xA,xZ,h5,hL1,hL2,h6,h7,hg1 j h5,hg2 _ h7]
      refine callP q7 lL ?_
      by_cases h8 : (g j).cmp (h' (m - 1 - j)) = 0
      ·simp -dsimp(disch:=first|exact om|fail)only[go_sem,simprocAttr,xE,xN,xC,xP,xA,xZ,h8]
       refine ⟨j + 1,⟨by omega,fun k hk=>?_⟩,by omega,StI.ren [some 0,some 1,some 2] [[],[],[]] lE (by decide) lW lW⟩
       by_cases h9 : k = j
       ·subst h9; exact h8
       ·exact hjk k (by omega)
      ·have h9 : (g j).cmp (h' (m - 1 - j)) < 0:=by omega
       simp -dsimp(disch:=first|exact om|fail)only[go_sem,simprocAttr,xE,xN,xC,xP,xA,xZ,h8,h9]
     ·obtain rfl : j = m:=by omega
      simp -dsimp(disch:=first|exact om|fail)only[go_sem,simprocAttr,xE,xN,xC,xP,xA,xZ]
      refine callP q2 (by simp -dsimp(disch:=first|exact om|fail)only[go_sem,simprocAttr,xE,xN,xC,xP,xA,xZ,pC]) ?_
      simp -dsimp(disch:=first|exact om|fail)only[go_sem,simprocAttr,xE,xN,xC,xP,xA,xZ]
      refine callP q6 lL ?_
      simp -dsimp(disch:=first|exact om|fail)only[go_sem,simprocAttr,xE,xN,xC,xP,xA,xZ]
    ·simp -dsimp(disch:=first|exact om|fail)only[go_sem,simprocAttr,xE,xN,xC,xP,xA,xZ,hz]
     refine callP q4 (hle _ rfl rfl) ?_
     simp -dsimp(disch:=first|exact om|fail)only[go_sem,simprocAttr,xE,xN,xC,xP,xA,xZ]
 ·have hn : (l.length : Int) > 1048576:=by omega
  refine tx Q6V Q3p [] (by kernel_rfl) ?_
  simp -dsimp(disch:=first|exact om|fail)only[go_sem,simprocAttr,xE,xN,xC,xP,xA,xZ,hn]
theorem X7T (f : Fl) (hf : f ≠ .u) (l : List Int) (hl : l.length ≤ 9223372036854775807) : PC PP Q0I [byV f l] (Bo true) []:=Y0W (X7S l) f hf
end Go.Proofs.Ytchlpclgkhggeaa