/- part of the proof -/
import Derived.Test.YtchlpclgkhggeaaGreatWGa
import Derived.Test.YtchlpclgkhggeaaGreatWXa
import Derived.Test.YtchlpclgkhggeaaGreatWJa
import Derived.Test.YtchlpclgkhggeaaGreatWSg
import Derived.Test.YtchlpclgkhggeaaGreatWTg
namespace Go.Proofs.YtchlpclgkhggeaaGreat
open Go Go.RowKit
set_option maxRecDepth 100000
set_option linter.unusedVariables false
set_option linter.unusedSimpArgs false
def colL (p : Prg) (j : Nat) : List Int:=(List.range p.rows.toNat).map fun i : Nat=>p.a.getD ((i : Int) * p.cols + j).toNat 0
theorem Q1V {p : Prg} {j : Nat} : (colL p j).length = p.rows.toNat:=by simp [colL]
theorem Y2P {p : Prg} {j i : Nat} (h : i < p.rows.toNat) : (colL p j).take (i + 1) = (colL p j).take i ++ [p.a.getD ((i : Int) * p.cols + j).toNat 0]:=by
 rw [List.take_succ_eq_append_getElem (by rw [Q1V]; exact h)]
 simp [colL]
theorem Q0F {p : Prg} (h : okP' p = true) : (0 ≤ p.rows ∧ p.rows ≤ 20) ∧ (0 ≤ p.cols ∧ p.cols ≤ 40) ∧ (p.a.length : Int) = p.rows * p.cols ∧ (p.b.length : Int) = p.rows ∧ (p.c.length : Int) = p.cols ∧ inB (-100) 100 p.a = true ∧ inB (-100) 100 p.b = true ∧ inB (-100) 100 p.c = true:=by
 simpa [okP',and_assoc] using h
theorem Y7V {i : Nat} {j r c : Int} (h : (i : Int) < r) (r2 : r ≤ 20) (c1 : 0 ≤ c) (c2 : c ≤ 40) (hj : 0 ≤ j ∧ j < c) : 0 ≤ (i : Int) * c ∧ (i : Int) * c + j < r * c ∧ r * c ≤ 800:=by
 have q1 : 0 ≤ (i : Int) * c:=Int.mul_nonneg (by omega) c1
 have q2 : ((i : Int) + 1) * c ≤ r * c:=Int.mul_le_mul_of_nonneg_right (by omega) c1
 rw [Int.add_mul,Int.one_mul] at q2
 have q3 : r * c ≤ 20 * 40:=Int.mul_le_mul r2 c2 c1 (by omega)
 omega
theorem Y3G (f : Fl) (hf : f ≠ .u) (p : Prg) (j : Int) (ho : okP' p = true) (hj : 0 ≤ j ∧ j < p.cols) : PC PP Q3v [pV f p,I j] (sI .s (colL p j.toNat)) []:=by
  obtain ⟨⟨r1,r2⟩,⟨c1,c2⟩,hal,_⟩:=Q0F ho
  have hll:=Q1V (p:=p) (j:=j.toNat)
  have hls:=@Y2P p j.toNat
  obtain ⟨r,c,la,lb,lc⟩:=p
  simp only at *
  generalize hC : colL ⟨r,c,la,lb,lc⟩ j.toNat = C at *
  refine tx X6C Q5L [] (by kernel_rfl) ?_
  simp only [pV,pC]
  simp -dsimp only [go_sem,↓reduceIte,Nat.reduceEqDiff,Nat.reduceAdd,Nat.reduceSub,Nat.reduceMul,Nat.reduceLT,Nat.reduceLeDiff,reduceCtorEq,hf]
  refine loopJ (fun i : Nat=>(i : Int) ≤ r) (fun i=>⟨[(1,I j),(2,.ref 0 0),(5,.rsl 1 1 0 i),(6,I i)],[⟨.own,Q0f,[I r,I c,sI f la,sI f lb,sI f lc]⟩,⟨.own,T_int,iC (C.take i)⟩]⟩) (fun i=>r.toNat - i) 0 (by omega) ?_ ?_
  · exact StI.ren [some 0,none] [[],[]] lE (by decide) (by simp -dsimp only [go_sem,↓reduceIte,Nat.reduceEqDiff,Nat.reduceAdd,Nat.reduceSub,Nat.reduceMul,Nat.reduceLT,Nat.reduceLeDiff,reduceCtorEq]; simp [iC]) (by simp -dsimp only [go_sem,↓reduceIte,Nat.reduceEqDiff,Nat.reduceAdd,Nat.reduceSub,Nat.reduceMul,Nat.reduceLT,Nat.reduceLeDiff,reduceCtorEq]; rfl)
  intro i hi
  simp -dsimp only [go_sem,↓reduceIte,Nat.reduceEqDiff,Nat.reduceAdd,Nat.reduceSub,Nat.reduceMul,Nat.reduceLT,Nat.reduceLeDiff,reduceCtorEq,hf]
  refine ⟨fun h=>?_,fun h=>?_⟩
  · obtain ⟨q1,q2,q3⟩:=Y7V h r2 c1 c2 hj
    rw [w64 (n:=(i : Int) * c) (by omega),w64 (n:=(i : Int) * c + j) (by omega)]
    have hlt : ((i : Int) * c + j).toNat < la.length:=by omega
    refine ⟨by omega,by omega,by omega, ?_⟩
    rw [Q0t hlt]
    simp -dsimp only [go_sem,↓reduceIte,Nat.reduceEqDiff,Nat.reduceAdd,Nat.reduceSub,Nat.reduceMul,Nat.reduceLT,Nat.reduceLeDiff,reduceCtorEq]
    refine ⟨by omega,by omega,i + 1,by omega,by omega, ?_⟩
    refine StI.ren [some 0,some 2] [[],[]] lE (by decide) ?_ ?_
    · simp -dsimp only [go_sem,↓reduceIte,Nat.reduceEqDiff,Nat.reduceAdd,Nat.reduceSub,Nat.reduceMul,Nat.reduceLT,Nat.reduceLeDiff,reduceCtorEq]
      rw [X9X,Q2t,hls (by omega),show (j.toNat : Int) = j by omega]
      exact RnL.lits
    · simp -dsimp only [go_sem,↓reduceIte,Nat.reduceEqDiff,Nat.reduceAdd,Nat.reduceSub,Nat.reduceMul,Nat.reduceLT,Nat.reduceLeDiff,reduceCtorEq]
      rw [w64 (by omega)]; omega
  · have : i = r.toNat:=by omega
    subst this
    exact Le.ownI0 (ty:=T_int) (by simp [List.take_of_length_le,hll]) (by rw [hll])
theorem Y0R (f : Fl) (hf : f ≠ .u) (p : Prg) (j : Int) (ho : okP' p = true) (hj : 0 ≤ j ∧ j < p.cols) : GC PP Q3n [.ptr .b (pC f p),I j] [] (.rsl 0 1 0 (colL p j.toNat).length) [⟨.own,T_int,iC (colL p j.toNat)⟩]:=by
 obtain ⟨⟨r1,r2⟩,⟨c1,c2⟩,hal,_⟩:=Q0F ho
 have hll:=Q1V (p:=p) (j:=j.toNat)
 have hls:=@Y2P p j.toNat
 obtain ⟨r,c,la,lb,lc⟩:=p
 simp only at *
 generalize hC : colL ⟨r,c,la,lb,lc⟩ j.toNat = C at *
 refine txg Q9s Q2E 0 [] [] [] rfl (by kernel_rfl) ?_
 simp only [pC]
 simp -dsimp only [go_sem,simprocAttr,hf]
 refine ⟨by omega,by omega,by omega, ?_⟩
 rw [Q2Q]
 refine loopI (fun i : Nat=>(i : Int) ≤ r) (fun i=>⟨[(0,.ptr .b [I r,I c,sI f la,sI f lb,sI f lc]),(1,I j),(5,.rsl 0 1 0 r.toNat),(13,I r),(14,I i)],[⟨.own,T_int,iC (C.take i ++ List.replicate (r.toNat - i) 0)⟩]⟩) (fun i=>r.toNat - i) 0 (by omega) ?_ ?_
 ·simp -dsimp only [go_sem,simprocAttr]
  simp; omega
 intro i hi
 simp -dsimp only [go_sem,simprocAttr,hf]
 refine ⟨fun h=>?_,fun h=>?_⟩
 ·obtain ⟨q1,q2,q3⟩:=Y7V h r2 c1 c2 hj
  rw [w64 (n:=(i : Int) * c) (by omega),w64 (n:=(i : Int) * c + j) (by omega)]
  have hlt : ((i : Int) * c + j).toNat < la.length:=by omega
  refine ⟨by omega,by omega,by omega, ?_⟩
  rw [Q0t hlt]
  simp -dsimp only [go_sem,simprocAttr]
  have hl2 : (C.take i ++ List.replicate (r.toNat - i) 0).length = r.toNat:=by simp [hll]; omega
  refine ⟨by omega,by omega,by rw [List.length_replicate]; omega,i + 1,by omega,by omega,by rw [w64 (by omega)]; omega, ?_⟩
  rw [Q0K (by rw [hl2]; omega),Q1e]
  have e:=hls (i:=i) (by omega)
  rw [show (j.toNat : Int) = j by omega] at e
  rw [e,List.set_append_right _ _ (by rw [List.length_take]; omega),List.length_take,Nat.min_eq_left (by omega),Nat.sub_self,show r.toNat - i = (r.toNat - (i + 1)) + 1 by omega,List.replicate_succ,List.set_cons_zero,List.append_assoc]; rfl
 ·have : i = r.toNat:=by omega
  subst this
  rw [Nat.sub_self,List.replicate_zero,List.append_nil,List.take_of_length_le (by omega),hll]
  exact RtG.nothing [some 0] lE (by decide) lS lE
set_option maxHeartbeats 4000000
theorem Q8U {l : List Int} (h : inB (-100) 100 l = true) {i : Nat} (hi : i < l.length) : -100 ≤ l.getD i 0 ∧ l.getD i 0 ≤ 100:=by
 unfold inB at h
 rw [List.all_eq_true] at h
 rw [List.getD_eq_getElem?_getD,List.getElem?_eq_getElem hi,Option.getD_some]
 have:=h _ (List.getElem_mem hi)
 simpa using this
def sml (l : List Int) : Prop:=∀ i,i < l.length → -100 ≤ l.getD i 0 ∧ l.getD i 0 ≤ 100
def rowI (p : Prg) (i : Nat) : List Int:=(p.a.drop (i * p.cols.toNat)).take p.cols.toNat
theorem Q4d {p : Prg} (ho : okP' p = true) {i : Nat} (hi : (i : Int) < p.rows) : ∃ c : Nat,p.cols = c ∧ c ≤ 40 ∧ i * c + c ≤ p.a.length ∧ p.a.length ≤ 800 ∧ (rowI p i).length = c ∧ rowI p i = (p.a.drop (i * c)).take c:=by
 obtain ⟨⟨r1,r2⟩,⟨c1,c2⟩,hal,_⟩:=Q0F ho
 obtain ⟨c,hc⟩ : ∃ c : Nat,p.cols = c:=⟨p.cols.toNat,by omega⟩
 obtain ⟨r,hr⟩ : ∃ r : Nat,p.rows = r:=⟨p.rows.toNat,by omega⟩
 rw [hr,hc,← Int.natCast_mul] at hal
 have h1 : (i + 1) * c ≤ r * c:=Nat.mul_le_mul_right c (by omega)
 have h2 : r * c ≤ 20 * 40:=Nat.mul_le_mul (by omega) (by omega)
 rw [Nat.succ_mul] at h1
 have e : p.cols.toNat = c:=by omega
 refine ⟨c,hc,by omega,by omega,by omega, ?_,by unfold rowI; rw [e]⟩
 unfold rowI
 rw [e,List.length_take,List.length_drop]
 omega
theorem Y6D {p : Prg} (ho : okP' p = true) {i : Nat} (hi : (i : Int) < p.rows) : sml (rowI p i):=by
 obtain ⟨c,hc,h40,h1,h2,hl,e⟩:=Q4d ho hi
 obtain ⟨_,_,_,_,_,ia,_⟩:=Q0F ho
 intro k hk
 rw [hl] at hk
 have : (rowI p i).getD k 0 = p.a.getD (i * c + k) 0:=by
  rw [e,List.getD_eq_getElem?_getD,List.getElem?_take_of_lt hk,List.getElem?_drop,← List.getD_eq_getElem?_getD]
 rw [this]
 exact Q8U ia (by omega)
theorem Z0y {l : List Int} {i c : Nat} : ((iC l).drop i).take c = iC ((l.drop i).take c):=by simp [iC,List.map_take,List.map_drop]
theorem Y9G (f : Fl) (hf : f ≠ .u) (p : Prg) (i : Nat) (ho : okP' p = true) (hi : (i : Int) < p.rows) : PB PP X4j [pV f p,I i] (sI .b (rowI p i)) []:=by
 obtain ⟨c,hc,h40,h1,h2,hl,e⟩:=Q4d ho hi
 obtain ⟨⟨r1,r2⟩,_⟩:=Q0F ho
 have e1 : (i : Int) * (c : Int) = ((i * c : Nat) : Int):=by rw [Int.natCast_mul]
 have e2 : ((i : Int) + 1) * (c : Int) = ((i * c + c : Nat) : Int):=by rw [Int.add_mul,Int.one_mul,e1]; omega
 have e3 : (i * c + c) - i * c = c:=by omega
 refine txb Y1v X0S [] [] [] (by kernel_rfl) ?_
 simp -dsimp(disch:=first|exact om|fail)only[go_sem,simprocAttr,xE,xN,xC,xP,xA,xZ,pC,hc,e1,e2]
 rw [e3,Z0y,← e]
 rw [show sI .b (rowI p i) = .sl .b 1 c (iC (rowI p i)) by show V.sl .b 1 (rowI p i).length _ = _; rw [hl]]
 exact RtB.nothing [] (by decide) trivial (Rn.lent hf)
def sgR (p : Prg) (i : Nat) : Int:=if p.b.getD i 0 < 0 then -1 else 1
def fstM (p : Prg) (r c : Nat) (i j : Nat) : FQ:=if j < c then FQ.ofInt (sgR p i * (rowI p i).getD j 0) else if j < c + r then FQ.ofInt (if j - c = i then 1 else 0) else FQ.ofInt (sgR p i * p.b.getD i 0)
def fstC (p : Prg) (r c : Nat) : Nat → Nat → FQ
 | 0,_=>FQ.ofInt 0
 | i + 1,j=>if j < c ∨ j = c + r then (fstC p r c i j).add (fstM p r c i j) else fstC p r c i j
def fstS (p : Prg) (r c : Nat) : SP:=⟨fstM p r c,fstC p r c r,fun i=>c + i⟩
theorem Q3Y {c : Nat} {g : Nat → FQ} {x : FQ} (h : g c = x) : rsC .s ((rowQ c g).map qd) ++ [Bo (qd x).neg,sI .s (qd x).mag,sI .s (qd x).den] = rsC .s ((rowQ (c + 1) g).map qd):=by
 rw [Z4p]
 unfold rowQ
 rw [List.range_succ,List.map_append,List.map_append,← h]; rfl
@[go_sem] theorem Z9x {H : List Ob} {js : List (Option Nat)} {m c : Nat} {M : Nat → Nat → FQ} {f : Fl} : RnL H js true (rwS f m c M) (rwS f m c M) [] = True:=eq_true (RnL.same (fun v hv=>by obtain ⟨l,rfl⟩:=X7p hv; trivial) (fun h=>by cases h))
theorem Y0q {H : List Ob} {js : List (Option Nat)} {bk : Bool} {m N a b d : Nat} {s : SP} {t1 t2 t3 : TypeId} (h1 : H[a]? = some ⟨.own,t1,rwS .u m (N + 1) s.M⟩) (h2 : H[b]? = some ⟨.own,t2,iC (bL m s.β)⟩) (h3 : H[d]? = some ⟨.own,t3,rsC .s ((rowQ (N + 1) s.cost).map qd)⟩) :
  RnL H js bk [I N,.rsl a 1 0 m,.rsl b 1 0 m,.rsl d 3 0 (N + 1)] (tbS .u m N s) [a,b,d]:=by
 have e : (rwS .u m (N + 1) s.M).take (m * 1) = rwS .u m (N + 1) s.M:=List.take_of_length_le (by rw [X9H]; omega)
 refine .cons _ _ _ _ _ _ [] [a,b,d] (.same _ _ _ trivial (fun _=>trivial)) (.cons _ _ _ _ _ _ [a] [b,d] ?_ (.cons _ _ _ _ _ _ [b] [d] (X7t h2) (.cons _ _ _ _ _ _ [d] [] (Q5q h3) (.nil _ _))))
 refine Rn.cl js bk a 1 m ⟨.own,t1,rwS .u m (N + 1) s.M⟩ _ [] h1 rfl (by show m * 1 ≤ _; rw [X9H]; omega) ?_
 rw [e]
 exact RnL.same (fun v hv=>by obtain ⟨l,rfl⟩:=X7p hv; trivial) (fun _ v hv=>by obtain ⟨l,rfl⟩:=X7p hv; trivial)
theorem Y4w {f : Fl} {m c : Nat} {M : Nat → Nat → FQ} : rwS f (m + 1) c M = rwS f m c M ++ [.sl f 3 c (rsC .s ((rowQ c (M m)).map qd))]:=by
 unfold rwS; rw [List.range_succ,List.map_append]; rfl
theorem Y3V {m : Nat} {β : Nat → Nat} : bL (m + 1) β = bL m β ++ [(β m : Int)]:=by
 unfold bL; rw [List.range_succ,List.map_append]; rfl
abbrev prO (f : Fl) (r c : Nat) (p : Prg) : Ob:=⟨.own,Q0f,[I r,I c,sI f p.a,sI f p.b,sI f p.c]⟩
theorem Y5L (f : Fl) (hf : f ≠ .u) (p : Prg) (r c : Nat) (ho : okP' p = true) (hr : p.rows = r) (hc : p.cols = c) : GC PP Q9z [pV f p] [] (.ref 0 0) [tabO r (c + r) (fstS p r c)]:=by
 have hR:=fun i=>Y9G f hf p i ho
 have hS:=fun i=>@Y6D p ho i
 have hF:=fun i=>@Q4d p ho i
 obtain ⟨⟨r1,r2⟩,⟨c1,c2⟩,hal,hbl,hcl,ia,ib,ic⟩:=Q0F ho
 have r3 : r ≤ 20:=by omega
 have c3 : c ≤ 40:=by omega
 have hbL : p.b.length = r:=by omega
 simp only [pV,pC,hr,hc] at hR ⊢
 refine txg X8o Q7g 0 [] [12] [32] rfl (by kernel_rfl) ?_
 simp -dsimp(disch:=first|exact om|fail)only[go_sem,simprocAttr,xE,xN,xC,xP,xA,xZ]
 refine loopJ (fun j : Nat=>j ≤ c + r + 1) (fun j=>⟨[(1,.ref 0 0),(3,.ref 1 0),(4,I j)],[prO f r c p,⟨.own,Q0a,[I ((c + r : Nat) : Int),.emp,.emp,.rsl 2 3 0 j]⟩,rwO j (fun _=>FQ.ofInt 0)]⟩) (fun j=>c + r + 1 - j) 0 (by omega) ?_ ?_
 ·refine StI.ren [some 0,some 1,none] [[],[],[]] lE (by decide) ?_ lW
  simp -dsimp(disch:=first|exact om|fail)only[go_sem,simprocAttr,xE,xN,xC,xP,xA,xZ]
  rfl
 intro j hj
 by_cases h : j < c + r + 1
 ·have e1 : (j : Int) ≤ ((c + r : Nat) : Int):=by omega
  have hpush:=Q3Y (c:=j) (g:=fun _=>FQ.ofInt 0) (x:=FQ.ofInt 0) rfl
  simp -dsimp(disch:=first|exact om|fail)only[go_sem,simprocAttr,xE,xN,xC,xP,xA,xZ]
  refine callP (Q0C 0 (by omega)) lL ?_
  simp -dsimp(disch:=first|exact om|fail)only[go_sem,simprocAttr,xE,xN,xC,xP,xA,xZ,hpush]
  exact ⟨j + 1,by omega,by omega,StI.ren [some 0,some 1,some 3] [[],[],[]] lE (by decide) lW lW⟩
 ·obtain rfl : j = c + r + 1:=by omega
  have hsgM : ∀ i,sgR p i = 1 ∨ sgR p i = -1:=fun i=>by unfold sgR; split <;> simp
  simp -dsimp(disch:=first|exact om|fail)only[go_sem,simprocAttr,xE,xN,xC,xP,xA,xZ]
  refine loopJ (fun i : Nat=>i ≤ r) (fun i=>⟨[(1,.ref 0 0),(3,.ref 1 0),(5,I i)],[prO f r c p,⟨.own,Q0a,[I ((c + r : Nat) : Int),.rsl 2 1 0 i,.rsl 3 1 0 i,.rsl 4 3 0 (c + r + 1)]⟩,⟨.own,Q0c,rwS .u i (c + r + 1) (fstM p r c)⟩,⟨.own,T_int,iC (bL i fun a=>c + a)⟩,rwO (c + r + 1) (fstC p r c i)]⟩) (fun i=>r - i) 0 (by omega) ?_ ?_
  ·refine StI.ren [some 0,some 1,none,none,some 2] [[],[],[],[],[]] lE (by decide) ?_ lW
   simp -dsimp(disch:=first|exact om|fail)only[go_sem,simprocAttr,xE,xN,xC,xP,xA,xZ]
   exact ⟨rfl,rfl,(RnL.same (by simp only [go_sem]) (fun h=>by cases h) : RnL _ _ true (rsC .s ((rowQ (c + r + 1) (fstC p r c 0)).map qd)) _ [])⟩
  intro i hi
  by_cases hir : i < r
  ·have hbr : -100 ≤ p.b.getD i 0 ∧ p.b.getD i 0 ≤ 100:=Q8U ib (by omega)
   have hRi:=hR i (by omega)
   obtain ⟨c',e1,e2,e3,e4,e5,e6⟩:=hF i (by omega)
   have hcc : c' = c:=by omega
   rw [hcc] at e5
   have hSi:=hS i (by omega)
   have hbE : sgR p i = if p.b.getD i 0 < 0 then -1 else 1:=rfl
   have hfM : ∀ j,fstM p r c i j = if j < c then FQ.ofInt (sgR p i * (rowI p i).getD j 0) else if j < c + r then FQ.ofInt (if j - c = i then 1 else 0) else FQ.ofInt (sgR p i * p.b.getD i 0):=fun j=>rfl
   have hsgi:=hsgM i
   generalize hsg : sgR p i = sg at *
   generalize hRw : rowI p i = R at *
   simp -dsimp(disch:=first|exact om|fail)only[go_sem,simprocAttr,xE,xN,xC,xP,xA,xZ]
   apply cutLR (s:=⟨[(1,.ref 0 0),(3,.ref 1 0),(5,I i),(6,I sg)],[prO f r c p,⟨.own,Q0a,[I ((c + r : Nat) : Int),.rsl 2 1 0 i,.rsl 3 1 0 i,.rsl 4 3 0 (c + r + 1)]⟩,⟨.own,Q0c,rwS .u i (c + r + 1) (fstM p r c)⟩,⟨.own,T_int,iC (bL i fun a=>c + a)⟩,rwO (c + r + 1) (fstC p r c i)]⟩)
   ·intro main
    by_cases hb0 : p.b.getD i 0 < 0
    ·rw [if_pos hb0] at hbE
     rw [hbE] at main
     simp -dsimp(disch:=first|exact om|fail)only[go_sem,simprocAttr,xE,xN,xC,xP,xA,xZ,hb0]
     exact ⟨_,StI.ren [some 0,some 1,some 2,some 3,some 4] [[],[],[],[],[]] lE (by decide) lW lW,main⟩
    ·rw [if_neg hb0] at hbE
     rw [hbE] at main
     simp -dsimp(disch:=first|exact om|fail)only[go_sem,simprocAttr,xE,xN,xC,xP,xA,xZ,hb0]
     exact ⟨_,StI.ren [some 0,some 1,some 2,some 3,some 4] [[],[],[],[],[]] lE (by decide) lW lW,main⟩
   have hlR : (R.length : Int) = c:=by omega
   simp -dsimp(disch:=first|exact om|fail)only[go_sem,simprocAttr,xE,xN,xC,xP,xA,xZ]
   refine callB' hRi lB lF ?_
   simp -dsimp(disch:=first|exact om|fail)only[go_sem,simprocAttr,xE,xN,xC,xP,xA,xZ,e5]
   refine loopJ (fun k : Nat=>k ≤ c) (fun k=>⟨[(1,.ref 0 0),(3,.ref 1 0),(5,I i),(6,I sg),(7,.rsl 5 3 0 k),(53,.sl .b 1 c (iC R)),(54,I c),(55,I k)],[prO f r c p,⟨.own,Q0a,[I ((c + r : Nat) : Int),.rsl 2 1 0 i,.rsl 3 1 0 i,.rsl 4 3 0 (c + r + 1)]⟩,⟨.own,Q0c,rwS .u i (c + r + 1) (fstM p r c)⟩,⟨.own,T_int,iC (bL i fun a=>c + a)⟩,rwO (c + r + 1) (fstC p r c i),rwO k (fstM p r c i)]⟩) (fun k=>c - k) 0 (by omega) ?_ ?_
   ·refine StI.ren [some 0,some 1,some 2,some 3,some 4,none] [[],[],[],[],[],[]] lE (by decide) ?_ ?_
    ·simp -dsimp(disch:=first|exact om|fail)only[go_sem,simprocAttr,xE,xN,xC,xP,xA,xZ]
     rfl
    ·simp -dsimp(disch:=first|exact om|fail)only[go_sem,simprocAttr,xE,xN,xC,xP,xA,xZ,e5]
   intro k hk
   by_cases hkc : k < c
   ·have hb:=hSi k (by omega)
    have hmul : -100 ≤ sg * R.getD k 0 ∧ sg * R.getD k 0 ≤ 100:=by
     rcases hsgi with h | h <;> rw [h] <;> omega
    have hgk : fstM p r c i k = FQ.ofInt (sg * R.getD k 0):=by rw [hfM,if_pos hkc]
    have hpush:=Q3Y (c:=k) (g:=fstM p r c i) (x:=FQ.ofInt (sg * R.getD k 0)) hgk
    have q:=Q0C (sg * R.getD k 0) (by omega)
    generalize hz : sg * R.getD k 0 = z at *
    simp -dsimp(disch:=first|exact om|fail)only[go_sem,simprocAttr,xE,xN,xC,xP,xA,xZ,hz]
    refine callP q lL ?_
    simp -dsimp(disch:=first|exact om|fail)only[go_sem,simprocAttr,xE,xN,xC,xP,xA,xZ,hpush]
    exact ⟨k + 1,by omega,by omega,StI.ren [some 0,some 1,some 2,some 3,some 4,some 6] [[],[],[],[],[],[]] lE (by decide) lW lW⟩
   ·obtain rfl : c = k:=by omega
    simp -dsimp(disch:=first|exact om|fail)only[go_sem,simprocAttr,xE,xN,xC,xP,xA,xZ]
    refine loopJ (fun j : Nat=>j ≤ r) (fun j=>⟨[(1,.ref 0 0),(3,.ref 1 0),(5,I i),(6,I sg),(7,.rsl 5 3 0 (c + j)),(10,I j)],[prO f r c p,⟨.own,Q0a,[I ((c + r : Nat) : Int),.rsl 2 1 0 i,.rsl 3 1 0 i,.rsl 4 3 0 (c + r + 1)]⟩,⟨.own,Q0c,rwS .u i (c + r + 1) (fstM p r c)⟩,⟨.own,T_int,iC (bL i fun a=>c + a)⟩,rwO (c + r + 1) (fstC p r c i),rwO (c + j) (fstM p r c i)]⟩) (fun j=>r - j) 0 (by omega) ?_ ?_
    ·exact StI.ren [some 0,some 1,some 2,some 3,some 4,some 5] [[],[],[],[],[],[]] lE (by decide) lW lW
    intro j hj
    by_cases hjr : j < r
    ·have hgk : fstM p r c i (c + j) = FQ.ofInt (if j = i then 1 else 0):=by rw [hfM,if_neg (by omega),if_pos (by omega),show c + j - c = j by omega]
     have hpush:=Q3Y (c:=c + j) (g:=fstM p r c i) (x:=FQ.ofInt (if j = i then 1 else 0)) hgk
     by_cases hji : j = i
     ·have e : (j : Int) = (i : Int):=by omega
      rw [if_pos hji] at hpush
      simp -dsimp(disch:=first|exact om|fail)only[go_sem,simprocAttr,xE,xN,xC,xP,xA,xZ,e]
      refine callP (Q0C 1 (by omega)) lL ?_
      simp -dsimp(disch:=first|exact om|fail)only[go_sem,simprocAttr,xE,xN,xC,xP,xA,xZ,hpush]
      refine ⟨j + 1,by omega,by omega, ?_⟩
      rw [show c + (j + 1) = c + j + 1 from rfl]
      exact StI.ren [some 0,some 1,some 2,some 3,some 4,some 6] [[],[],[],[],[],[]] lE (by decide) lW lW
     ·have e : ¬ (j : Int) = (i : Int):=by omega
      rw [if_neg hji] at hpush
      simp -dsimp(disch:=first|exact om|fail)only[go_sem,simprocAttr,xE,xN,xC,xP,xA,xZ,e]
      refine callP (Q0C 0 (by omega)) lL ?_
      simp -dsimp(disch:=first|exact om|fail)only[go_sem,simprocAttr,xE,xN,xC,xP,xA,xZ,hpush]
      refine ⟨j + 1,by omega,by omega, ?_⟩
      rw [show c + (j + 1) = c + j + 1 from rfl]
      exact StI.ren [some 0,some 1,some 2,some 3,some 4,some 6] [[],[],[],[],[],[]] lE (by decide) lW lW
    ·obtain rfl : r = j:=by omega
     have hmul : -100 ≤ sg * p.b.getD i 0 ∧ sg * p.b.getD i 0 ≤ 100:=by
      rcases hsgi with h | h <;> rw [h] <;> omega
     have hgk : fstM p r c i (c + r) = FQ.ofInt (sg * p.b.getD i 0):=by rw [hfM,if_neg (by omega),if_neg (by omega)]
     have hpush:=Q3Y (c:=c + r) (g:=fstM p r c i) (x:=FQ.ofInt (sg * p.b.getD i 0)) hgk
     have q:=Q0C (sg * p.b.getD i 0) (by omega)
     generalize hz : sg * p.b.getD i 0 = z at *
     simp -dsimp(disch:=first|exact om|fail)only[go_sem,simprocAttr,xE,xN,xC,xP,xA,xZ,hz]
     refine callP q lL ?_
     simp -dsimp(disch:=first|exact om|fail)only[go_sem,simprocAttr,xE,xN,xC,xP,xA,xZ,hpush]
     have hfC : ∀ a,fstC p r c (i + 1) a = if a < c ∨ a = c + r then (fstC p r c i a).add (fstM p r c i a) else fstC p r c i a:=fun a=>rfl
     obtain ⟨F,hF⟩ : ∃ F : Nat → Nat → FQ,F = fun j a=>if a < j then fstC p r c (i + 1) a else fstC p r c i a:=⟨_,rfl⟩
     have hF0 : F 0 = fstC p r c i:=by rw [hF]; funext a; simp
     have hFc : rwO (c + r + 1) (F (c + r + 1)) = rwO (c + r + 1) (fstC p r c (i + 1)):=X7q fun a ha=>by rw [hF]; simp [ha]
     have hFi : ∀ j,F j j = fstC p r c i j:=fun j=>by rw [hF]; simp
     have hFs : ∀ j x,x = fstC p r c (i + 1) j → upd1 (F j) j x = F (j + 1):=fun j x e=>by
      rw [hF]; funext a; unfold upd1
      by_cases q : a = j
      ·subst q; simp [e]
      ·by_cases q2 : a < j
       ·simp [q,q2,show a < j + 1 by omega]
       ·simp [q,q2,show ¬ a < j + 1 by omega]
     have hFn : ∀ j,fstC p r c (i + 1) j = fstC p r c i j → F (j + 1) = F j:=fun j e=>by
      rw [← hFs j _ rfl]; funext a; unfold upd1
      by_cases q : a = j
      ·rw [if_pos q,e,q,hFi]
      ·rw [if_neg q]
     clear hF
     refine loopJ (fun j : Nat=>j ≤ c + r + 1) (fun j=>⟨[(1,.ref 0 0),(3,.ref 1 0),(5,I i),(7,.rsl 5 3 0 (c + r + 1)),(93,I ((c + r + 1 : Nat) : Int)),(94,I j)],[prO f r c p,⟨.own,Q0a,[I ((c + r : Nat) : Int),.rsl 2 1 0 i,.rsl 3 1 0 i,.rsl 4 3 0 (c + r + 1)]⟩,⟨.own,Q0c,rwS .u i (c + r + 1) (fstM p r c)⟩,⟨.own,T_int,iC (bL i fun a=>c + a)⟩,rwO (c + r + 1) (F j),rwO (c + r + 1) (fstM p r c i)]⟩) (fun j=>c + r + 1 - j) 0 (by omega) ?_ ?_
     ·rw [hF0]
      exact StI.ren [some 0,some 1,some 2,some 3,some 4,some 6] [[],[],[],[],[],[]] lE (by decide) lW lW
     intro j hj
     by_cases hjr : j < c + r + 1
     ·by_cases hin : j < c ∨ j = c + r
      ·have hset:=Y0B (c:=c + r + 1) (g:=F j) (x:=fstC p r c (i + 1) j) hjr
       have hadd : (fstC p r c i j).add (fstM p r c i j) = fstC p r c (i + 1) j:=by rw [hfC,if_pos hin]
       rw [hFs j _ rfl] at hset
       by_cases hjc : j < c
       ·simp -dsimp(disch:=first|exact om|fail)only[go_sem,simprocAttr,xE,xN,xC,xP,xA,xZ,hFi]
        refine callP (X6P .s .s fls fls (fstC p r c i j) (fstM p r c i j)) lL ?_
        rw [hadd]
        simp -dsimp(disch:=first|exact om|fail)only[go_sem,simprocAttr,xE,xN,xC,xP,xA,xZ,hset]
        exact ⟨j + 1,by omega,by omega,StI.ren [some 0,some 1,some 2,some 3,some 4,some 5] [[],[],[],[],[],[]] lE (by decide) lW lW⟩
       ·obtain rfl : j = c + r:=by omega
        simp -dsimp(disch:=first|exact om|fail)only[go_sem,simprocAttr,xE,xN,xC,xP,xA,xZ,hFi]
        refine callP (X6P .s .s fls fls (fstC p r c i (c + r)) (fstM p r c i (c + r))) lL ?_
        rw [hadd]
        simp -dsimp(disch:=first|exact om|fail)only[go_sem,simprocAttr,xE,xN,xC,xP,xA,xZ,hset]
        exact ⟨c + r + 1,by omega,by omega,StI.ren [some 0,some 1,some 2,some 3,some 4,some 5] [[],[],[],[],[],[]] lE (by decide) lW lW⟩
      ·have e : ¬ (j : Int) = ((c + r : Nat) : Int):=by omega
       have hjc : ¬ j < c:=by omega
       simp -dsimp(disch:=first|exact om|fail)only[go_sem,simprocAttr,xE,xN,xC,xP,xA,xZ,e]
       refine ⟨j + 1,by omega,by omega, ?_⟩
       rw [hFn j (by rw [hfC,if_neg hin])]
       exact StI.ren [some 0,some 1,some 2,some 3,some 4,some 5] [[],[],[],[],[],[]] lE (by decide) lW lW
     ·obtain rfl : j = c + r + 1:=by omega
      rw [hFc]
      simp -dsimp(disch:=first|exact om|fail)only[go_sem,simprocAttr,xE,xN,xC,xP,xA,xZ]
      refine ⟨i + 1,by omega,by omega,StI.ren [some 0,some 1,some 7,some 8,some 4] [[],[],[5],[],[]] lE (by decide) ?_ lW⟩
      simp -dsimp(disch:=first|exact om|fail)only[go_sem,simprocAttr,xE,xN,xC,xP,xA,xZ]
      rw [Y4w,Y3V]
      refine ⟨?_,by simp only [Int.natCast_add]; exact RnL.lits⟩
      exact RnL.app (k1:=[]) (RnL.same (fun v hv=>by obtain ⟨l,rfl⟩:=X7p hv; trivial) (fun h=>by cases h)) (.cons _ _ _ _ _ _ [5] [] (Q5q rfl) (.nil _ _))
  ·obtain rfl : i = r:=by omega
   simp -dsimp(disch:=first|exact om|fail)only[go_sem,simprocAttr,xE,xN,xC,xP,xA,xZ]
   refine RtG.ren [some 1] [[2,3,4]] lE (by decide) ?_ lW
   simp -dsimp(disch:=first|exact om|fail)only[go_sem,simprocAttr,xE,xN,xC,xP,xA,xZ]
   exact Y0q rfl rfl rfl
end Go.Proofs.YtchlpclgkhggeaaGreat