/- part of the proof -/
import Derived.Test.YtchlpclgkhggeaaGreatVXh
namespace Go.Proofs.YtchlpclgkhggeaaGreat
open Go Go.RowKit
set_option maxRecDepth 100000
set_option maxHeartbeats 4000000
set_option linter.unusedVariables false
set_option linter.unusedSimpArgs false
def sgR (p : Prg) (i : Nat) : Int:=if p.b.getD i 0 < 0 then -1 else 1
def fstM (p : Prg) (r c : Nat) (i j : Nat) : FQ:=if j < c then FQ.ofInt (sgR p i * (rowI p i).getD j 0) else if j < c + r then FQ.ofInt (if j - c = i then 1 else 0) else FQ.ofInt (sgR p i * p.b.getD i 0)
def fstC (p : Prg) (r c : Nat) : Nat → Nat → FQ
 | 0,_=>FQ.ofInt 0
 | i + 1,j=>if j < c ∨ j = c + r then (fstC p r c i j).add (fstM p r c i j) else fstC p r c i j
def fstS (p : Prg) (r c : Nat) : SP:=⟨fstM p r c,fstC p r c r,fun i=>c + i⟩
theorem Q4o {c : Nat} {g : Nat → FQ} {x : FQ} (h : g c = x) : rsC .s ((rowQ c g).map qd) ++ [Bo (qd x).neg,sI .s (qd x).mag,sI .s (qd x).den] = rsC .s ((rowQ (c + 1) g).map qd):=by
 rw [Z2D]
 unfold rowQ
 rw [List.range_succ,List.map_append,List.map_append,← h]; rfl
@[go_sem] theorem Z7M {H : List Ob} {js : List (Option Nat)} {m c : Nat} {M : Nat → Nat → FQ} {f : Fl} : RnL H js true (rwS f m c M) (rwS f m c M) [] = True:=eq_true (RnL.same (fun v hv=>by obtain ⟨l,rfl⟩:=X6m hv; trivial) (fun h=>by cases h))
theorem X9m {H : List Ob} {js : List (Option Nat)} {bk : Bool} {m N a b d : Nat} {s : SP} {t1 t2 t3 : TypeId} (h1 : H[a]? = some ⟨.own,t1,rwS .u m (N + 1) s.M⟩) (h2 : H[b]? = some ⟨.own,t2,iC (bL m s.β)⟩) (h3 : H[d]? = some ⟨.own,t3,rsC .s ((rowQ (N + 1) s.cost).map qd)⟩) :
  RnL H js bk [I N,.rsl a 1 0 m,.rsl b 1 0 m,.rsl d 3 0 (N + 1)] (tbS .u m N s) [a,b,d]:=by
 have e : (rwS .u m (N + 1) s.M).take (m * 1) = rwS .u m (N + 1) s.M:=List.take_of_length_le (by rw [X8G]; omega)
 refine .cons _ _ _ _ _ _ [] [a,b,d] (.same _ _ _ trivial (fun _=>trivial)) (.cons _ _ _ _ _ _ [a] [b,d] ?_ (.cons _ _ _ _ _ _ [b] [d] (X6q h2) (.cons _ _ _ _ _ _ [d] [] (Q4T h3) (.nil _ _))))
 refine Rn.cl js bk a 1 m ⟨.own,t1,rwS .u m (N + 1) s.M⟩ _ [] h1 rfl (by show m * 1 ≤ _; rw [X8G]; omega) ?_
 rw [e]
 exact RnL.same (fun v hv=>by obtain ⟨l,rfl⟩:=X6m hv; trivial) (fun _ v hv=>by obtain ⟨l,rfl⟩:=X6m hv; trivial)
theorem Y3n {f : Fl} {m c : Nat} {M : Nat → Nat → FQ} : rwS f (m + 1) c M = rwS f m c M ++ [.sl f 3 c (rsC .s ((rowQ c (M m)).map qd))]:=by
 unfold rwS; rw [List.range_succ,List.map_append]; rfl
theorem Y2M {m : Nat} {β : Nat → Nat} : bL (m + 1) β = bL m β ++ [(β m : Int)]:=by
 unfold bL; rw [List.range_succ,List.map_append]; rfl
abbrev prO (f : Fl) (r c : Nat) (p : Prg) : Ob:=⟨.own,Q0F,[I r,I c,sI f p.a,sI f p.b,sI f p.c]⟩
theorem Y4A (f : Fl) (hf : f ≠ .u) (p : Prg) (r c : Nat) (ho : okP' p = true) (hr : p.rows = r) (hc : p.cols = c) : GC PP Q8Q [pV f p] [] (.ref 0 0) [tabO r (c + r) (fstS p r c)]:=by
 have hR:=fun i=>Y8m f hf p i ho
 have hS:=fun i=>@Y5n p ho i
 have hF:=fun i=>@Q3E p ho i
 obtain ⟨⟨r1,r2⟩,⟨c1,c2⟩,hal,hbl,hcl,ia,ib,ic⟩:=Q1q ho
 have r3 : r ≤ 20:=by omega
 have c3 : c ≤ 40:=by omega
 have hbL : p.b.length = r:=by omega
 simp only [pV,pC,hr,hc] at hR ⊢
 refine txg X7m Q6E 0 [] [12] [32] rfl (by kernel_rfl) ?_
 simp -dsimp(disch:=first|exact om|fail)only[go_sem,simprocAttr,xE,xN,xC,xP,xA,xZ]
 refine loopJ (fun j : Nat=>j ≤ c + r + 1) (fun j=>⟨[(1,.ref 0 0),(3,.ref 1 0),(4,I j)],[prO f r c p,⟨.own,Q0a,[I ((c + r : Nat) : Int),.emp,.emp,.rsl 2 3 0 j]⟩,rwO j (fun _=>FQ.ofInt 0)]⟩) (fun j=>c + r + 1 - j) 0 (by omega) ?_ ?_
 ·refine StI.ren [some 0,some 1,none] [[],[],[]] lE (by decide) ?_ lW
  simp -dsimp(disch:=first|exact om|fail)only[go_sem,simprocAttr,xE,xN,xC,xP,xA,xZ]
  rfl
 intro j hj
 by_cases h : j < c + r + 1
 ·have e1 : (j : Int) ≤ ((c + r : Nat) : Int):=by omega
  have hpush:=Q4o (c:=j) (g:=fun _=>FQ.ofInt 0) (x:=FQ.ofInt 0) rfl
  simp -dsimp(disch:=first|exact om|fail)only[go_sem,simprocAttr,xE,xN,xC,xP,xA,xZ]
  refine callP (Q0y 0 (by omega)) lL ?_
  simp -dsimp(disch:=first|exact om|fail)only[go_sem,simprocAttr,xE,xN,xC,xP,xA,xZ,hpush]
  exact ⟨j + 1,by omega,by omega,StI.ren [some 0,some 1,some 3] [[],[],[]] lE (by decide) lW lW⟩
 ·obtain rfl : j = c + r + 1:=by omega
  have hsgM : ∀ i,sgR p i = 1 ∨ sgR p i = -1:=fun i=>by unfold sgR; split <;> simp
  simp -dsimp(disch:=first|exact om|fail)only[go_sem,simprocAttr,xE,xN,xC,xP,xA,xZ]
  refine loopJ (fun i : Nat=>i ≤ r) (fun i=>⟨[(1,.ref 0 0),(3,.ref 1 0),(5,I i)],[prO f r c p,⟨.own,Q0a,[I ((c + r : Nat) : Int),.rsl 2 1 0 i,.rsl 3 1 0 i,.rsl 4 3 0 (c + r + 1)]⟩,⟨.own,Q0c,rwS .u i (c + r + 1) (fstM p r c)⟩,⟨.own,T_int,iC (bL i fun a=>c + a)⟩,rwO (c + r + 1) (fstC p r c i)]⟩) (fun i=>r - i) 0 (by omega) ?_ ?_
  ·refine StI.ren [some 0,some 1,none,none,some 2] [[],[],[],[],[]] lE (by decide) ?_ lW
   simp -dsimp(disch:=first|exact om|fail)only[go_sem,simprocAttr,xE,xN,xC,xP,xA,xZ]
   exact ⟨rfl,rfl,(RnL.same (by simp only [go_sem]) (fun h=>by cases h) : RnL _ _ true (rsC .s ((rowQ (c + r + 1) (fstC p r c 0)).map qd)) _ [])⟩
  intro i hi
  by_cases hir : i < r
  ·have hbr : -100 ≤ p.b.getD i 0 ∧ p.b.getD i 0 ≤ 100:=X1v ib (by omega)
   have hRi:=hR i (by omega)
   obtain ⟨c',e1,e2,e3,e4,e5,e6⟩:=hF i (by omega)
   have hcc : c' = c:=by omega
   rw [hcc] at e5
   have hSi:=hS i (by omega)
   have hbE : sgR p i = if p.b.getD i 0 < 0 then -1 else 1:=rfl
   have hfM : ∀ j,fstM p r c i j = if j < c then FQ.ofInt (sgR p i * (rowI p i).getD j 0) else if j < c + r then FQ.ofInt (if j - c = i then 1 else 0) else FQ.ofInt (sgR p i * p.b.getD i 0):=fun j=>rfl
   have hsgi:=hsgM i
   generalize hsg : sgR p i = sg at *
   generalize hRw : rowI p i = R at *
   simp -dsimp(disch:=first|exact om|fail)only[go_sem,simprocAttr,xE,xN,xC,xP,xA,xZ]
   apply cutLR (s:=⟨[(1,.ref 0 0),(3,.ref 1 0),(5,I i),(6,I sg)],[prO f r c p,⟨.own,Q0a,[I ((c + r : Nat) : Int),.rsl 2 1 0 i,.rsl 3 1 0 i,.rsl 4 3 0 (c + r + 1)]⟩,⟨.own,Q0c,rwS .u i (c + r + 1) (fstM p r c)⟩,⟨.own,T_int,iC (bL i fun a=>c + a)⟩,rwO (c + r + 1) (fstC p r c i)]⟩)
   ·intro main
    by_cases hb0 : p.b.getD i 0 < 0
    ·rw [if_pos hb0] at hbE
     rw [hbE] at main
     simp -dsimp(disch:=first|exact om|fail)only[go_sem,simprocAttr,xE,xN,xC,xP,xA,xZ,hb0]
     exact ⟨_,StI.ren [some 0,some 1,some 2,some 3,some 4] [[],[],[],[],[]] lE (by decide) lW lW,main⟩
    ·rw [if_neg hb0] at hbE
     rw [hbE] at main
     simp -dsimp(disch:=first|exact om|fail)only[go_sem,simprocAttr,xE,xN,xC,xP,xA,xZ,hb0]
     exact ⟨_,StI.ren [some 0,some 1,some 2,some 3,some 4] [[],[],[],[],[]] lE (by decide) lW lW,main⟩
   have hlR : (R.length : Int) = c:=by omega
   simp -dsimp(disch:=first|exact om|fail)only[go_sem,simprocAttr,xE,xN,xC,xP,xA,xZ]
   refine callB' hRi lB lF ?_
   simp -dsimp(disch:=first|exact om|fail)only[go_sem,simprocAttr,xE,xN,xC,xP,xA,xZ,e5]
   refine loopJ (fun k : Nat=>k ≤ c) (fun k=>⟨[(1,.ref 0 0),(3,.ref 1 0),(5,I i),(6,I sg),(7,.rsl 5 3 0 k),(53,.sl .b 1 c (iC R)),(54,I c),(55,I k)],[prO f r c p,⟨.own,Q0a,[I ((c + r : Nat) : Int),.rsl 2 1 0 i,.rsl 3 1 0 i,.rsl 4 3 0 (c + r + 1)]⟩,⟨.own,Q0c,rwS .u i (c + r + 1) (fstM p r c)⟩,⟨.own,T_int,iC (bL i fun a=>c + a)⟩,rwO (c + r + 1) (fstC p r c i),rwO k (fstM p r c i)]⟩) (fun k=>c - k) 0 (by omega) ?_ ?_
   ·refine StI.ren [some 0,some 1,some 2,some 3,some 4,none] [[],[],[],[],[],[]] lE (by decide) ?_ ?_
    ·simp -dsimp(disch:=first|exact om|fail)only[go_sem,simprocAttr,xE,xN,xC,xP,xA,xZ]
     rfl
    ·simp -dsimp(disch:=first|exact om|fail)only[go_sem,simprocAttr,xE,xN,xC,xP,xA,xZ,e5]
   intro k hk
   by_cases hkc : k < c
   ·have hb:=hSi k (by omega)
    have hmul : -100 ≤ sg * R.getD k 0 ∧ sg * R.getD k 0 ≤ 100:=by
     rcases hsgi with h | h <;> rw [h] <;> omega
    have hgk : fstM p r c i k = FQ.ofInt (sg * R.getD k 0):=by rw [hfM,if_pos hkc]
    have hpush:=Q4o (c:=k) (g:=fstM p r c i) (x:=FQ.ofInt (sg * R.getD k 0)) hgk
    have q:=Q0y (sg * R.getD k 0) (by omega)
    generalize hz : sg * R.getD k 0 = z at *
    simp -dsimp(disch:=first|exact om|fail)only[go_sem,simprocAttr,xE,xN,xC,xP,xA,xZ,hz]
    refine callP q lL ?_
    simp -dsimp(disch:=first|exact om|fail)only[go_sem,simprocAttr,xE,xN,xC,xP,xA,xZ,hpush]
    exact ⟨k + 1,by omega,by omega,StI.ren [some 0,some 1,some 2,some 3,some 4,some 6] [[],[],[],[],[],[]] lE (by decide) lW lW⟩
   ·obtain rfl : c = k:=by omega
    simp -dsimp(disch:=first|exact om|fail)only[go_sem,simprocAttr,xE,xN,xC,xP,xA,xZ]
    refine loopJ (fun j : Nat=>j ≤ r) (fun j=>⟨[(1,.ref 0 0),(3,.ref 1 0),(5,I i),(6,I sg),(7,.rsl 5 3 0 (c + j)),(10,I j)],[prO f r c p,⟨.own,Q0a,[I ((c + r : Nat) : Int),.rsl 2 1 0 i,.rsl 3 1 0 i,.rsl 4 3 0 (c + r + 1)]⟩,⟨.own,Q0c,rwS .u i (c + r + 1) (fstM p r c)⟩,⟨.own,T_int,iC (bL i fun a=>c + a)⟩,rwO (c + r + 1) (fstC p r c i),rwO (c + j) (fstM p r c i)]⟩) (fun j=>r - j) 0 (by omega) ?_ ?_
    ·exact StI.ren [some 0,some 1,some 2,some 3,some 4,some 5] [[],[],[],[],[],[]] lE (by decide) lW lW
    intro j hj
    by_cases hjr : j < r
    ·have hgk : fstM p r c i (c + j) = FQ.ofInt (if j = i then 1 else 0):=by rw [hfM,if_neg (by omega),if_pos (by omega),show c + j - c = j by omega]
     have hpush:=Q4o (c:=c + j) (g:=fstM p r c i) (x:=FQ.ofInt (if j = i then 1 else 0)) hgk
     by_cases hji : j = i
     ·have e : (j : Int) = (i : Int):=by omega
      rw [if_pos hji] at hpush
      simp -dsimp(disch:=first|exact om|fail)only[go_sem,simprocAttr,xE,xN,xC,xP,xA,xZ,e]
      refine callP (Q0y 1 (by omega)) lL ?_
      simp -dsimp(disch:=first|exact om|fail)only[go_sem,simprocAttr,xE,xN,xC,xP,xA,xZ,hpush]
      refine ⟨j + 1,by omega,by omega, ?_⟩
      rw [show c + (j + 1) = c + j + 1 from rfl]
      exact StI.ren [some 0,some 1,some 2,some 3,some 4,some 6] [[],[],[],[],[],[]] lE (by decide) lW lW
     ·have e : ¬ (j : Int) = (i : Int):=by omega
      rw [if_neg hji] at hpush
      simp -dsimp(disch:=first|exact om|fail)only[go_sem,simprocAttr,xE,xN,xC,xP,xA,xZ,e]
      refine callP (Q0y 0 (by omega)) lL ?_
      simp -dsimp(disch:=first|exact om|fail)only[go_sem,simprocAttr,xE,xN,xC,xP,xA,xZ,hpush]
      refine ⟨j + 1,by omega,by omega, ?_⟩
      rw [show c + (j + 1) = c + j + 1 from rfl]
      exact StI.ren [some 0,some 1,some 2,some 3,some 4,some 6] [[],[],[],[],[],[]] lE (by decide) lW lW
    ·obtain rfl : r = j:=by omega
     have hmul : -100 ≤ sg * p.b.getD i 0 ∧ sg * p.b.getD i 0 ≤ 100:=by
      rcases hsgi with h | h <;> rw [h] <;> omega
     have hgk : fstM p r c i (c + r) = FQ.ofInt (sg * p.b.getD i 0):=by rw [hfM,if_neg (by omega),if_neg (by omega)]
     have hpush:=Q4o (c:=c + r) (g:=fstM p r c i) (x:=FQ.ofInt (sg * p.b.getD i 0)) hgk
     have q:=Q0y (sg * p.b.getD i 0) (by omega)
     generalize hz : sg * p.b.getD i 0 = z at *
     simp -dsimp(disch:=first|exact om|fail)only[go_sem,simprocAttr,xE,xN,xC,xP,xA,xZ,hz]
     refine callP q lL ?_
     simp -dsimp(disch:=first|exact om|fail)only[go_sem,simprocAttr,xE,xN,xC,xP,xA,xZ,hpush]
     have hfC : ∀ a,fstC p r c (i + 1) a = if a < c ∨ a = c + r then (fstC p r c i a).add (fstM p r c i a) else fstC p r c i a:=fun a=>rfl
     obtain ⟨F,hF⟩ : ∃ F : Nat → Nat → FQ,F = fun j a=>if a < j then fstC p r c (i + 1) a else fstC p r c i a:=⟨_,rfl⟩
     have hF0 : F 0 = fstC p r c i:=by rw [hF]; funext a; simp
     have hFc : rwO (c + r + 1) (F (c + r + 1)) = rwO (c + r + 1) (fstC p r c (i + 1)):=X6n fun a ha=>by rw [hF]; simp [ha]
     have hFi : ∀ j,F j j = fstC p r c i j:=fun j=>by rw [hF]; simp
     have hFs : ∀ j x,x = fstC p r c (i + 1) j → upd1 (F j) j x = F (j + 1):=fun j x e=>by
      rw [hF]; funext a; unfold upd1
      by_cases q : a = j
      ·subst q; simp [e]
      ·by_cases q2 : a < j
       ·simp [q,q2,show a < j + 1 by omega]
       ·simp [q,q2,show ¬ a < j + 1 by omega]
     have hFn : ∀ j,fstC p r c (i + 1) j = fstC p r c i j → F (j + 1) = F j:=fun j e=>by
      rw [← hFs j _ rfl]; funext a; unfold upd1
      by_cases q : a = j
      ·rw [if_pos q,e,q,hFi]
      ·rw [if_neg q]
     clear hF
     refine loopJ (fun j : Nat=>j ≤ c + r + 1) (fun j=>⟨[(1,.ref 0 0),(3,.ref 1 0),(5,I i),(7,.rsl 5 3 0 (c + r + 1)),(93,I ((c + r + 1 : Nat) : Int)),(94,I j)],[prO f r c p,⟨.own,Q0a,[I ((c + r : Nat) : Int),.rsl 2 1 0 i,.rsl 3 1 0 i,.rsl 4 3 0 (c + r + 1)]⟩,⟨.own,Q0c,rwS .u i (c + r + 1) (fstM p r c)⟩,⟨.own,T_int,iC (bL i fun a=>c + a)⟩,rwO (c + r + 1) (F j),rwO (c + r + 1) (fstM p r c i)]⟩) (fun j=>c + r + 1 - j) 0 (by omega) ?_ ?_
     ·rw [hF0]
      exact StI.ren [some 0,some 1,some 2,some 3,some 4,some 6] [[],[],[],[],[],[]] lE (by decide) lW lW
     intro j hj
     by_cases hjr : j < c + r + 1
     ·by_cases hin : j < c ∨ j = c + r
      ·have hset:=X9x (c:=c + r + 1) (g:=F j) (x:=fstC p r c (i + 1) j) hjr
       have hadd : (fstC p r c i j).add (fstM p r c i j) = fstC p r c (i + 1) j:=by rw [hfC,if_pos hin]
       rw [hFs j _ rfl] at hset
       by_cases hjc : j < c
       ·simp -dsimp(disch:=first|exact om|fail)only[go_sem,simprocAttr,xE,xN,xC,xP,xA,xZ,hFi]
        refine callP (X9M .s .s fls fls (fstC p r c i j) (fstM p r c i j)) lL ?_
        rw [hadd]
        simp -dsimp(disch:=first|exact om|fail)only[go_sem,simprocAttr,xE,xN,xC,xP,xA,xZ,hset]
        exact ⟨j + 1,by omega,by omega,StI.ren [some 0,some 1,some 2,some 3,some 4,some 5] [[],[],[],[],[],[]] lE (by decide) lW lW⟩
       ·obtain rfl : j = c + r:=by omega
        simp -dsimp(disch:=first|exact om|fail)only[go_sem,simprocAttr,xE,xN,xC,xP,xA,xZ,hFi]
        refine callP (X9M .s .s fls fls (fstC p r c i (c + r)) (fstM p r c i (c + r))) lL ?_
        rw [hadd]
        simp -dsimp(disch:=first|exact om|fail)only[go_sem,simprocAttr,xE,xN,xC,xP,xA,xZ,hset]
        exact ⟨c + r + 1,by omega,by omega,StI.ren [some 0,some 1,some 2,some 3,some 4,some 5] [[],[],[],[],[],[]] lE (by decide) lW lW⟩
      ·have e : ¬ (j : Int) = ((c + r : Nat) : Int):=by omega
       have hjc : ¬ j < c:=by omega
       simp -dsimp(disch:=first|exact om|fail)only[go_sem,simprocAttr,xE,xN,xC,xP,xA,xZ,e]
       refine ⟨j + 1,by omega,by omega, ?_⟩
       rw [hFn j (by rw [hfC,if_neg hin])]
       exact StI.ren [some 0,some 1,some 2,some 3,some 4,some 5] [[],[],[],[],[],[]] lE (by decide) lW lW
     ·obtain rfl : j = c + r + 1:=by omega
      rw [hFc]
      simp -dsimp(disch:=first|exact om|fail)only[go_sem,simprocAttr,xE,xN,xC,xP,xA,xZ]
      refine ⟨i + 1,by omega,by omega,StI.ren [some 0,some 1,some 7,some 8,some 4] [[],[],[5],[],[]] lE (by decide) ?_ lW⟩
      simp -dsimp(disch:=first|exact om|fail)only[go_sem,simprocAttr,xE,xN,xC,xP,xA,xZ]
      rw [Y3n,Y2M]
      refine ⟨?_,by simp only [Int.natCast_add]; exact RnL.lits⟩
      exact RnL.app (k1:=[]) (RnL.same (fun v hv=>by obtain ⟨l,rfl⟩:=X6m hv; trivial) (fun h=>by cases h)) (.cons _ _ _ _ _ _ [5] [] (Q4T rfl) (.nil _ _))
  ·obtain rfl : i = r:=by omega
   simp -dsimp(disch:=first|exact om|fail)only[go_sem,simprocAttr,xE,xN,xC,xP,xA,xZ]
   refine RtG.ren [some 1] [[2,3,4]] lE (by decide) ?_ lW
   simp -dsimp(disch:=first|exact om|fail)only[go_sem,simprocAttr,xE,xN,xC,xP,xA,xZ]
   exact X9m rfl rfl rfl
end Go.Proofs.YtchlpclgkhggeaaGreat