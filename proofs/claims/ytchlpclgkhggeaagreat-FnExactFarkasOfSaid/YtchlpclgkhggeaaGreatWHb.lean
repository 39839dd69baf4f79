/- part of the proof -/
import Derived.Test.YtchlpclgkhggeaaGreatWHa
namespace Go.Proofs.YtchlpclgkhggeaaGreat
open Go Go.RowKit
set_option maxRecDepth 100000
set_option linter.unusedVariables false
set_option linter.unusedSimpArgs false
theorem Z0t {l : List Int} : ∀ c ∈ iC l,∃ v,c = .lit v:=by
 intro c hc
 unfold iC at hc
 obtain ⟨n,_,rfl⟩:=List.mem_map.1 hc
 exact ⟨_,rfl⟩
theorem Mem.cut {w : World} {S B : BS} {κ : KM} : ∀ {cs : List V} {b o k : Nat} {us : List Nat},(∀ c ∈ cs,∃ v,c = .lit v) → Mem w S B κ cs b o us → us = [] ∧ Mem w S B κ (cs.take k) b o []
 | [],b,o,k,us,_,h=>by
  have h : us = []:=h
  subst h
  rw [List.take_nil]; exact ⟨rfl,rfl⟩
 | c :: cs,b,o,k,us,hl,⟨x,u1,u2,h1,h2,h3,h4⟩=>by
  obtain ⟨v,rfl⟩:=hl c (by simp)
  have h31 : u1 = []:=h3.1
  subst h31
  cases k with
  | zero =>
   obtain ⟨e,_⟩:=Mem.cut (k:=0) (fun c hc=>hl c (by simp [hc])) h4
   exact ⟨by rw [h2,e]; rfl,rfl⟩
  | succ k =>
   obtain ⟨e,m⟩:=Mem.cut (k:=k) (fun c hc=>hl c (by simp [hc])) h4
   exact ⟨by rw [h2,e]; rfl,x,[],[],h1,rfl,h3,m⟩
theorem Hp.trunc {E : Env} {H : List Ob} {w : World} {κ : KM} {S : BS} {uss : List (List Nat)} (h : Hp E H w κ S uss) {id : Nat} {ty : TypeId} {cs : List V} (hi : H[id]? = some ⟨.own,ty,cs⟩) (hl : ∀ c ∈ cs,∃ v,c = .lit v) (k : Nat) (ty' : TypeId) :
  Hp E (H.set id ⟨.own,ty',cs.take k⟩) w κ S uss:=by
 have hil:=(List.getElem?_eq_some_iff.1 hi).1
 refine { kl:=by simp [h.kl],al:=?_,ul:=by simp [h.ul],ob:=?_,nd:=h.nd,ow:=h.ow,sb:=h.sb,s0:=h.s0,s1:=h.s1,bb:=h.bb,kp:=h.kp,kk:=h.kk }
 ·intro i ob h1 st
  by_cases e : id = i
  ·subst e; exact h.al id _ hi (.inl rfl)
  ·rw [List.getElem?_set,if_neg e] at h1; exact h.al i ob h1 st
 ·intro i ob k' us h1 h2 h3
  by_cases e : id = i
  ·subst e
   rw [List.getElem?_set_self hil] at h1
   obtain rfl:=Option.some.inj h1
   rcases h.ob id _ k' us hi h2 h3 with ⟨e1,e2,e3⟩ | ⟨b,arr,u,e1,e2,e3,e4⟩
   ·have e2 : cs = []:=e2
    exact .inl ⟨e1,by rw [e2]; exact List.take_nil,e3⟩
   ·obtain ⟨rfl,m⟩:=Mem.cut (k:=k) hl e4
    exact .inr ⟨b,arr,[],e1,e2,e3,m⟩
  ·rw [List.getElem?_set,if_neg e] at h1; exact h.ob i ob k' us h1 h2 h3
theorem RtG.trunc {n0 : Nat} {H H1 : List Ob} {v r : V} (id k : Nat) {ty : TypeId} {l : List Int} (hi : H[id]? = some ⟨.own,ty,iC l⟩) (h : RtG n0 (H.set id ⟨.own,ty,iC (l.take k)⟩) v r H1) : RtG n0 H v r H1:=by
 intro E w κ S uss x hn hp hx
 refine h E w κ S uss x hn ?_ hx
 rw [← Q8X]
 exact hp.trunc hi Z0t k ty
theorem Z3O (l : List Int) (hl : l.length ≤ 4194304) (hne : trimL l ≠ []) : GC PP X2A [.rsl 0 1 0 l.length] [⟨.own,T_int,iC l⟩] (.rsl 0 1 0 (trimL l).length) [⟨.own,T_int,iC (trimL l)⟩]:=by
 refine txg X8D Q8O 1 [] [] [] rfl (by kernel_rfl) ?_
 simp -dsimp only [go_sem,simprocAttr]
 refine loopI (fun k : Nat=>k ≤ l.length ∧ trimL (l.take k) = trimL l) (fun k=>⟨[(0,.rsl 0 1 0 k)],[⟨.own,T_int,iC l⟩]⟩) (fun k=>k) l.length ⟨by omega,by rw [List.take_length]⟩ ?_ ?_
 ·simp -dsimp only [go_sem,simprocAttr]
 have fin : ∀ k : Nat,k ≤ l.length → l.take k = trimL l → RtG 1 [⟨.own,T_int,iC l⟩] (.rsl 0 1 0 k) (.rsl 0 1 0 (trimL l).length) [⟨.own,T_int,iC (trimL l)⟩]:=by
  intro k hk e
  refine RtG.trunc 0 k rfl ?_
  rw [e]
  have : k = (trimL l).length:=by rw [← e,List.length_take]; omega
  rw [this]
  exact RtG.nothing [some 0] lE (by decide) lS lE
 intro k ⟨hk,hp⟩
 by_cases h : (0 : Int) < k
 ·simp -dsimp only [go_sem,simprocAttr,h]
  have e : ((k : Int) - 1).toNat = k - 1:=by omega
  rw [w64 (n:=(k : Int) - 1) (by omega),e]
  refine ⟨by omega,by omega,by omega, ?_⟩
  rw [Q0t (by omega)]
  simp -dsimp only [go_sem,simprocAttr]
  rw [w64 (n:=(k : Int) - 1) (by omega),e]
  refine ⟨fun h0=>⟨by omega,by omega, ?_⟩,fun h0=>fin _ hk (Q1L hk hp (fun _=>h0))⟩
  have ht:=Q8g hk hp (by omega) h0
  by_cases hk0 : k - 1 = 0
  ·rw [hk0] at ht
   exact absurd ht.symm hne
  ·exact ⟨k - 1,⟨by omega,ht⟩,by omega,rfl⟩
 ·have h0 : k = 0:=by omega
  subst h0
  simp -dsimp only [go_sem,simprocAttr,h]
  exact fin _ hk (Q1L hk hp (by omega))
theorem Z0R (f g : Fl) (hf : f ≠ .u) (hg : g ≠ .u) (a b : Nat) (h0a : 0 < a) (h0b : 0 < b) (ha : (lim a).length ≤ 1048576) (hb : (lim b).length ≤ 1048576) : GC PP Q9N [sI f (lim a),sI g (lim b)] [] (.rsl 0 1 0 (lim (a * b)).length) [⟨.own,T_int,iC (lim (a * b))⟩]:=by
  have hA:=Q0L a
  have hB:=Q0L b
  have hT : ∀ o : List Int,dg o → vl o = vl (lim a) * vl (lim b) → trimL o = lim (a * b):=fun o h1 h2=>Q2N h1 (by rw [h2,Q0B,Q0B]; rfl)
  have hA0 : (lim a).length ≠ 0:=fun h=>by
    have:=Q3r.1 (List.eq_nil_of_length_eq_zero h); omega
  have hB0 : (lim b).length ≠ 0:=fun h=>by
    have:=Q3r.1 (List.eq_nil_of_length_eq_zero h); omega
  have hR : lim (a * b) ≠ []:=fun h=>by
    have:=Q3r.1 h
    rcases Nat.mul_eq_zero.1 this with h | h <;> omega
  generalize lim a = A at *
  generalize lim b = C at *
  generalize lim (a * b) = R at *
  refine txg X5U Q6v 0 [] [] [16] rfl (by kernel_rfl) ?_
  simp -dsimp only [go_sem,↓reduceIte,Nat.reduceEqDiff,Nat.reduceAdd,Nat.reduceSub,Nat.reduceMul,Nat.reduceLT,Nat.reduceLeDiff,reduceCtorEq,hf,hg]
  refine ⟨fun h1=>⟨fun h2=>?_,fun h2=>?_⟩,fun h1=>?_⟩
  · exact absurd (by omega) hB0
  · rw [w64 (n:=(A.length : Int) + C.length) (by omega)]
    refine ⟨by omega,by omega,by omega, ?_⟩
    rw [Q2Q,show ((A.length : Int) + C.length).toNat = A.length + C.length by omega]
    refine loopI (fun z : List Int × Nat=>z.2 ≤ A.length ∧ mulJ A C (A.length + C.length) z.2 z.1) (fun z=>⟨[(0,sI f A),(1,sI g C),(5,.rsl 0 1 0 (A.length + C.length)),(26,sI f A),(27,I A.length),(28,I z.2)],[⟨.own,T_int,iC z.1⟩]⟩) (fun z=>A.length - z.2) (List.replicate (A.length + C.length) 0,0) ⟨Nat.zero_le _,X7B _ _ _⟩ ?_ ?_
    · simp -dsimp only [go_sem,↓reduceIte,Nat.reduceEqDiff,Nat.reduceAdd,Nat.reduceSub,Nat.reduceMul,Nat.reduceLT,Nat.reduceLeDiff,reduceCtorEq]
      first | exact ⟨rfl,rfl⟩ | rfl | trivial
    rintro ⟨o,i⟩ ⟨hi,hz⟩
    obtain ⟨zl,zd,zz,zv⟩:=id hz
    simp only at hi hz zl zd zz zv
    simp -dsimp only [go_sem,↓reduceIte,Nat.reduceEqDiff,Nat.reduceAdd,Nat.reduceSub,Nat.reduceMul,Nat.reduceLT,Nat.reduceLeDiff,reduceCtorEq,hf,hg]
    refine ⟨fun h=>⟨by omega,h,by omega, ?_⟩,fun h=>?_⟩
    · have hi' : i < A.length:=by omega
      have q1:=hA.getD i
      rw [Q0t hi']
      simp -dsimp only [go_sem,↓reduceIte,Nat.reduceEqDiff,Nat.reduceAdd,Nat.reduceSub,Nat.reduceMul,Nat.reduceLT,Nat.reduceLeDiff,reduceCtorEq]
      refine loopI (mulI A C (A.length + C.length) i) (fun z=>⟨[(0,sI f A),(1,sI g C),(5,.rsl 0 1 0 (A.length + C.length)),(6,I i),(7,I (A.getD i 0)),(8,I z.c),(26,sI f A),(27,I A.length),(28,I i),(33,sI g C),(34,I C.length),(35,I z.i)],[⟨.own,T_int,iC z.o⟩]⟩) (fun z=>C.length - z.i) ⟨o,0,0⟩ (X7C hz) ?_ ?_
      · simp -dsimp only [go_sem,↓reduceIte,Nat.reduceEqDiff,Nat.reduceAdd,Nat.reduceSub,Nat.reduceMul,Nat.reduceLT,Nat.reduceLeDiff,reduceCtorEq]
        first | exact ⟨rfl,rfl⟩ | rfl | trivial
      intro z hzi
      obtain ⟨yl,yd,yc,yi,yz,yv⟩:=id hzi
      simp -dsimp only [go_sem,↓reduceIte,Nat.reduceEqDiff,Nat.reduceAdd,Nat.reduceSub,Nat.reduceMul,Nat.reduceLT,Nat.reduceLeDiff,reduceCtorEq,hf,hg]
      refine ⟨fun h2=>⟨by omega,h2,by omega, ?_⟩,fun h2=>?_⟩
      · have hj' : z.i < C.length:=by omega
        have q2:=hB.getD z.i
        have q3:=yd.getD (i + z.i)
        obtain ⟨hs,p1,p2,p3,p4⟩:=X7D (n:=z.o.getD (i + z.i) 0 + A.getD i 0 * C.getD z.i 0 + z.c) hzi hA hB hj' (by omega) rfl
        rw [Q0t hj']
        simp -dsimp only [go_sem,↓reduceIte,Nat.reduceEqDiff,Nat.reduceAdd,Nat.reduceSub,Nat.reduceMul,Nat.reduceLT,Nat.reduceLeDiff,reduceCtorEq]
        rw [w64 (n:=(i : Int) + z.i) (by omega),show ((i : Int) + z.i).toNat = i + z.i by omega]
        refine ⟨by omega,by omega,by omega, ?_⟩
        rw [Q0t (by omega)]
        simp -dsimp only [go_sem,↓reduceIte,Nat.reduceEqDiff,Nat.reduceAdd,Nat.reduceSub,Nat.reduceMul,Nat.reduceLT,Nat.reduceLeDiff,reduceCtorEq]
        rw [w64 (n:=A.getD i 0 * C.getD z.i 0) (by omega),w64 (n:=z.o.getD (i + z.i) 0 + A.getD i 0 * C.getD z.i 0) (by omega),w64 (n:=z.o.getD (i + z.i) 0 + A.getD i 0 * C.getD z.i 0 + z.c) (by omega)]
        refine ⟨by omega,by omega,by omega,by omega,by omega,_,hs,by show C.length - (z.i + 1) < C.length - z.i; omega,⟨?_, ?_⟩, ?_⟩
        · rw [Int.tdiv_eq_ediv_of_nonneg p3,w64 (by omega)]
        · rw [w64 (by omega)]; show (z.i : Int) + 1 = ((z.i + 1 : Nat) : Int); omega
        · rw [Q0K (by omega),Int.tmod_eq_emod_of_nonneg p3,Q1e]
      · have hj' : z.i = C.length:=by omega
        rw [w64 (n:=(i : Int) + C.length) (by omega),show ((i : Int) + C.length).toNat = i + C.length by omega]
        have hend:=Y0G hzi hj' (by omega)
        refine ⟨by omega,by omega,by omega,(z.o.set (i + C.length) z.c,i + 1),⟨hi',hend⟩,by show A.length - (i + 1) < A.length - i; omega, ?_, ?_⟩
        · rw [w64 (by omega)]; show (i : Int) + 1 = ((i + 1 : Nat) : Int); omega
        · rw [Q0K (by omega),Q1e]
    · have hi' : i = A.length:=by omega
      subst hi'
      rw [List.take_length] at zv
      have e:=hT _ zd zv
      refine callG' [0] (Z3O o (by omega) (by rw [e]; exact hR)) (by decide) ?_ ?_ (Nat.le_refl _) lF ?_
      · simp -dsimp only [go_sem,↓reduceIte,Nat.reduceEqDiff,Nat.reduceAdd,Nat.reduceSub,Nat.reduceMul,Nat.reduceLT,Nat.reduceLeDiff,reduceCtorEq]
      · simp -dsimp only [go_sem,↓reduceIte,Nat.reduceEqDiff,Nat.reduceAdd,Nat.reduceSub,Nat.reduceMul,Nat.reduceLT,Nat.reduceLeDiff,reduceCtorEq]; omega
      simp -dsimp only [go_sem,↓reduceIte,Nat.reduceEqDiff,Nat.reduceAdd,Nat.reduceSub,Nat.reduceMul,Nat.reduceLT,Nat.reduceLeDiff,reduceCtorEq]
      rw [e]
      exact RtG.nothing [some 0] lE (by decide) lS lE
  · exact absurd (by omega) hA0
def dgx (t : Nat) (l : List Int) : Prop:=∀ k,k ≠ t → 0 ≤ l.getD k 0 ∧ l.getD k 0 < (1000000000 : Int)
theorem Y0a {l : List Int} (h : ∀ k,k < l.length → 0 ≤ l.getD k 0 ∧ l.getD k 0 < (1000000000 : Int)) : dg l:=by
 intro x hx
 obtain ⟨k,hk,rfl⟩:=List.getElem_of_mem hx
 have:=h k hk
 simpa [hk] using this
theorem Z0G {t : Nat} {l : List Int} (h : dgx t l) (ht : 0 ≤ l.getD t 0 ∧ l.getD t 0 < (1000000000 : Int)) : dg l:=by
 refine Y0a fun k _=>?_
 by_cases e : k = t
 ·subst e; exact ht
 ·exact h k e
theorem Y0S {l : List Int} {i k : Nat} {v : Int} (hi : i < l.length) : (l.set i v).getD k 0 = if k = i then v else l.getD k 0:=by
 by_cases h : k = i
 ·subst h; rw [if_pos rfl]; simp [List.getD_eq_getElem?_getD,hi]
 ·rw [if_neg h,Q0E (fun e=>h e.symm)]
def tkc (x : Int) : Int:=if x < 0 then (999999999 - x) / 1000000000 else 0
def takeS (q : Int) (v : List Int) (j : Nat) (o : List Int) : Nat → List Int × Int
 | 0=>(o,0)
 | i + 1 =>
  let p:=takeS q v j o i
  let x:=p.1.getD (j + i) 0 - q * v.getD i 0 - p.2
  (p.1.set (j + i) (x + tkc x * 1000000000),tkc x)
theorem Y9f {x : Int} (h : x < 1000000000) : 0 ≤ x + tkc x * 1000000000 ∧ x + tkc x * 1000000000 < 1000000000 ∧ 0 ≤ tkc x:=by
 unfold tkc; split <;> omega
theorem X4L {q : Int} {v o : List Int} {j : Nat} (hq : 0 ≤ q ∧ q < 1000000000) (hv : dg v) (ho : dg o) : ∀ {i : Nat},j + i ≤ o.length →
  (takeS q v j o i).1.length = o.length ∧ dg (takeS q v j o i).1 ∧ (0 ≤ (takeS q v j o i).2 ∧ (takeS q v j o i).2 < 1000000000) ∧ (∀ k,k < j ∨ j + i ≤ k → (takeS q v j o i).1.getD k 0 = o.getD k 0) ∧
  vl (takeS q v j o i).1 - (1000000000 : Int) ^ (j + i) * (takeS q v j o i).2 = vl o - (1000000000 : Int) ^ j * (q * vl (v.take i))
 | 0,_=>⟨rfl,ho,by simp [takeS],fun _ _=>rfl,by simp [takeS,vl]⟩
 | i + 1,hi=>by
  obtain ⟨h1,h2,h3,h4,h5⟩:=X4L (j:=j) hq hv ho (i:=i) (by omega)
  have q1:=h2.getD (j + i)
  have q2:=hv.getD i
  have m1 : 0 ≤ q * v.getD i 0:=Int.mul_nonneg hq.1 q2.1
  have m2 : q * v.getD i 0 ≤ 999999999 * 999999999:=Int.mul_le_mul (by omega) (by omega) q2.1 (by decide)
  unfold takeS
  simp only
  generalize hx : (takeS q v j o i).1.getD (j + i) 0 - q * v.getD i 0 - (takeS q v j o i).2 = x
  obtain ⟨t1,t2,t3⟩:=Y9f (x:=x) (by omega)
  have t4 : tkc x < 1000000000:=by unfold tkc; split <;> omega
  refine ⟨by simpa using h1,X3G h2 ⟨t1,t2⟩,⟨t3,t4⟩,fun k hk=>?_, ?_⟩
  ·rw [Q0E (k:=k) (by omega)]; exact h4 k (by omega)
  ·rw [X0p (i:=j + i) (by omega),← Nat.add_assoc,Int.pow_succ,Int.mul_assoc,Q0z,Int.mul_add,Int.mul_add]
   have e1 : (1000000000 : Int) ^ j * (q * ((1000000000 : Int) ^ i * v.getD i 0)) = (1000000000 : Int) ^ (j + i) * (q * v.getD i 0):=by
    rw [Int.pow_add,Int.mul_assoc,Int.mul_left_comm q]
   rw [e1]
   have e2 : (1000000000 : Int) ^ (j + i) * (x + tkc x * 1000000000 - (takeS q v j o i).1.getD (j + i) 0) - (1000000000 : Int) ^ (j + i) * (1000000000 * tkc x) = - ((1000000000 : Int) ^ (j + i) * (q * v.getD i 0)) - (1000000000 : Int) ^ (j + i) * (takeS q v j o i).2:=by
    rw [← Int.mul_sub,← Int.mul_neg,← Int.mul_sub]
    congr 1; omega
   omega
def takeL (q : Int) (v : List Int) (j : Nat) (o : List Int) : List Int :=
 (takeS q v j o v.length).1.set (j + v.length) ((takeS q v j o v.length).1.getD (j + v.length) 0 - (takeS q v j o v.length).2)
theorem X9E {q : Int} {v o : List Int} {j : Nat} (hq : 0 ≤ q ∧ q < 1000000000) (hv : dg v) (ho : dg o) (hj : j + v.length < o.length) :
  (takeL q v j o).length = o.length ∧ dgx (j + v.length) (takeL q v j o) ∧ (∀ k,k < j ∨ j + v.length < k → (takeL q v j o).getD k 0 = o.getD k 0) ∧ vl (takeL q v j o) = vl o - (1000000000 : Int) ^ j * (q * vl v) ∧
   (-1000000000 < (takeL q v j o).getD (j + v.length) 0 ∧ (takeL q v j o).getD (j + v.length) 0 < 1000000000):=by
 obtain ⟨h1,h2,h3,h4,h5⟩:=X4L (j:=j) hq hv ho (i:=v.length) (by omega)
 rw [List.take_length] at h5
 unfold takeL
 have q1:=h2.getD (j + v.length)
 refine ⟨by simpa using h1,fun k hk=>?_,fun k hk=>?_, ?_, ?_⟩
 ·rw [Q0E (k:=k) (by omega)]; exact h2.getD k
 ·rw [Q0E (k:=k) (by omega)]; exact h4 k (by omega)
 ·rw [X0p (i:=j + v.length) (by omega)]
  have : (1000000000 : Int) ^ (j + v.length) * ((takeS q v j o v.length).1.getD (j + v.length) 0 - (takeS q v j o v.length).2 - (takeS q v j o v.length).1.getD (j + v.length) 0) = -((1000000000 : Int) ^ (j + v.length) * (takeS q v j o v.length).2):=by
   rw [← Int.mul_neg]; congr 1; omega
  omega
 ·rw [Y0S (by omega),if_pos rfl]; omega
def giveS (v : List Int) (j : Nat) (o : List Int) : Nat → List Int × Int
 | 0=>(o,0)
 | i + 1 =>
  let p:=giveS v j o i
  let x:=p.1.getD (j + i) 0 + v.getD i 0 + p.2
  (p.1.set (j + i) (x % 1000000000),x / 1000000000)
theorem X5c {v o : List Int} {j t : Nat} (hv : dg v) (ho : dgx t o) : ∀ {i : Nat},j + i ≤ t → t < o.length →
  (giveS v j o i).1.length = o.length ∧ dgx t (giveS v j o i).1 ∧ (0 ≤ (giveS v j o i).2 ∧ (giveS v j o i).2 ≤ 1) ∧ (∀ k,k < j ∨ j + i ≤ k → (giveS v j o i).1.getD k 0 = o.getD k 0) ∧
  vl (giveS v j o i).1 + (1000000000 : Int) ^ (j + i) * (giveS v j o i).2 = vl o + (1000000000 : Int) ^ j * vl (v.take i)
 | 0,_,_=>⟨rfl,ho,by simp [giveS],fun _ _=>rfl,by simp [giveS,vl]⟩
 | i + 1,hi,ht=>by
  obtain ⟨h1,h2,h3,h4,h5⟩:=X5c (j:=j) hv ho (i:=i) (by omega) ht
  have q1:=h2 (j + i) (by omega)
  have q2:=hv.getD i
  unfold giveS
  simp only
  generalize hx : (giveS v j o i).1.getD (j + i) 0 + v.getD i 0 + (giveS v j o i).2 = x
  refine ⟨by simpa using h1,fun k hk=>?_,by omega,fun k hk=>?_, ?_⟩
  ·rw [Y0S (by omega)]; split
   ·omega
   ·exact h2 k hk
  ·rw [Q0E (k:=k) (by omega)]; exact h4 k (by omega)
  ·rw [X0p (i:=j + i) (by omega),← Nat.add_assoc,Int.pow_succ,Int.mul_assoc,Q0z,Int.mul_add]
   have e1 : (1000000000 : Int) ^ j * ((1000000000 : Int) ^ i * v.getD i 0) = (1000000000 : Int) ^ (j + i) * v.getD i 0:=by rw [Int.pow_add,Int.mul_assoc]
   rw [e1]
   have e2 : (1000000000 : Int) ^ (j + i) * (x % 1000000000 - (giveS v j o i).1.getD (j + i) 0) + (1000000000 : Int) ^ (j + i) * (1000000000 * (x / 1000000000)) = (1000000000 : Int) ^ (j + i) * v.getD i 0 + (1000000000 : Int) ^ (j + i) * (giveS v j o i).2:=by
    rw [← Int.mul_add,← Int.mul_add]
    congr 1; omega
   omega
def giveL (v : List Int) (j : Nat) (o : List Int) : List Int :=
 (giveS v j o v.length).1.set (j + v.length) ((giveS v j o v.length).1.getD (j + v.length) 0 + (giveS v j o v.length).2)
theorem Y5R {v o : List Int} {j : Nat} (hv : dg v) (ho : dgx (j + v.length) o) (hj : j + v.length < o.length) :
  (giveL v j o).length = o.length ∧ dgx (j + v.length) (giveL v j o) ∧ (∀ k,k < j ∨ j + v.length < k → (giveL v j o).getD k 0 = o.getD k 0) ∧ vl (giveL v j o) = vl o + (1000000000 : Int) ^ j * vl v:=by
 obtain ⟨h1,h2,h3,h4,h5⟩:=X5c (j:=j) (t:=j + v.length) hv ho (i:=v.length) (Nat.le_refl _) hj
 rw [List.take_length] at h5
 unfold giveL
 refine ⟨by simpa using h1,fun k hk=>?_,fun k hk=>?_, ?_⟩
 ·rw [Q0E (k:=k) (by omega)]; exact h2 k hk
 ·rw [Q0E (k:=k) (by omega)]; exact h4 k (by omega)
 ·rw [X0p (i:=j + v.length) (by omega)]
  have : (1000000000 : Int) ^ (j + v.length) * ((giveS v j o v.length).1.getD (j + v.length) 0 + (giveS v j o v.length).2 - (giveS v j o v.length).1.getD (j + v.length) 0) = (1000000000 : Int) ^ (j + v.length) * (giveS v j o v.length).2:=by
   congr 1; omega
  omega
theorem nu_iC {l : List Int} {c : V} (h : c ∈ iC l) : c.nu:=by
 obtain ⟨v,rfl⟩:=Z0t c h
 trivial
theorem Z3S (g : Fl) (hg : g ≠ .u) (o v : List Int) (j : Nat) (q : Int) (hq : 0 ≤ q ∧ q < 1000000000) (hv : dg v) (ho : dg o) (hj : j + v.length < o.length) (hl : o.length ≤ 4194304) :
    GC PP X8G [.rsl 0 1 j (o.length - j),sI g v,I q] [⟨.own,T_int,iC o⟩] (Bo (decide ((takeL q v j o).getD (j + v.length) 0 < 0))) [⟨.own,T_int,iC (takeL q v j o)⟩]:=by
  refine txg Y3Y X5F 1 [] [] [] rfl (by kernel_rfl) ?_
  simp -dsimp only [go_sem,↓reduceIte,Nat.reduceEqDiff,Nat.reduceAdd,Nat.reduceSub,Nat.reduceMul,Nat.reduceLT,Nat.reduceLeDiff,reduceCtorEq,hg]
  refine loopI (fun i : Nat=>i ≤ v.length) (fun i=>⟨[(0,.rsl 0 1 j (o.length - j)),(1,sI g v),(2,I q),(7,I (takeS q v j o i).2),(11,sI g v),(12,I v.length),(13,I i)],[⟨.own,T_int,iC (takeS q v j o i).1⟩]⟩) (fun i=>v.length - i) 0 (Nat.zero_le _) ?_ ?_
  · simp -dsimp only [go_sem,↓reduceIte,Nat.reduceEqDiff,Nat.reduceAdd,Nat.reduceSub,Nat.reduceMul,Nat.reduceLT,Nat.reduceLeDiff,reduceCtorEq]
    simp [takeS]
  intro i hi
  obtain ⟨h1,h2,h3,h4,h5⟩:=X4L (j:=j) hq hv ho (i:=i) (by omega)
  simp -dsimp only [go_sem,↓reduceIte,Nat.reduceEqDiff,Nat.reduceAdd,Nat.reduceSub,Nat.reduceMul,Nat.reduceLT,Nat.reduceLeDiff,reduceCtorEq,hg]
  refine ⟨fun h=>⟨by omega,h,by omega, ?_⟩,fun h=>?_⟩
  · have q1:=h2.getD (j + i)
    have q2:=hv.getD i
    have m1 : 0 ≤ q * v.getD i 0:=Int.mul_nonneg hq.1 q2.1
    have m2 : q * v.getD i 0 ≤ 999999999 * 999999999:=Int.mul_le_mul (by omega) (by omega) q2.1 (by decide)
    have e : takeS q v j o (i + 1) = ((takeS q v j o i).1.set (j + i) ((takeS q v j o i).1.getD (j + i) 0 - q * v.getD i 0 - (takeS q v j o i).2 + tkc ((takeS q v j o i).1.getD (j + i) 0 - q * v.getD i 0 - (takeS q v j o i).2) * 1000000000),tkc ((takeS q v j o i).1.getD (j + i) 0 - q * v.getD i 0 - (takeS q v j o i).2)):=rfl
    generalize takeS q v j o i = p at *
    rw [Q0t (by omega)]
    simp -dsimp only [go_sem,↓reduceIte,Nat.reduceEqDiff,Nat.reduceAdd,Nat.reduceSub,Nat.reduceMul,Nat.reduceLT,Nat.reduceLeDiff,reduceCtorEq]
    refine ⟨by omega,by omega,by omega, ?_⟩
    rw [Q0t (by omega)]
    simp -dsimp only [go_sem,↓reduceIte,Nat.reduceEqDiff,Nat.reduceAdd,Nat.reduceSub,Nat.reduceMul,Nat.reduceLT,Nat.reduceLeDiff,reduceCtorEq]
    rw [w64 (n:=q * v.getD i 0) (by omega),w64 (n:=p.1.getD (j + i) 0 - q * v.getD i 0) (by omega),w64 (n:=p.1.getD (j + i) 0 - q * v.getD i 0 - p.2) (by omega)]
    generalize hx : p.1.getD (j + i) 0 - q * v.getD i 0 - p.2 = x at *
    have hx2 : -1000000000000000000 ≤ x ∧ x < 1000000000:=by omega
    have ht : tkc x = if x < 0 then (999999999 - x) / 1000000000 else 0:=rfl
    refine ⟨fun h0=>?_,fun h0=>?_⟩
    · rw [if_pos h0] at ht
      rw [w64 (n:=999999999 - x) (by omega),Int.tdiv_eq_ediv_of_nonneg (by omega),← ht,w64 (n:=tkc x) (by omega),w64 (n:=tkc x * 1000000000) (by omega),w64 (n:=x + tkc x * 1000000000) (by omega)]
      refine ⟨by omega,by omega,by omega,by omega,i + 1,by omega,by omega,⟨by rw [e],by rw [w64 (by omega)]; omega⟩, ?_⟩
      rw [Q0K (by omega),e,Q1e]
    · rw [if_neg h0] at ht
      refine ⟨by omega,by omega,by omega,i + 1,by omega,by omega,⟨by rw [e]; exact ht.symm,by rw [w64 (by omega)]; omega⟩, ?_⟩
      rw [Q0K (by omega),e,Q1e,ht,Int.zero_mul,Int.add_zero]
  · have hi' : i = v.length:=by omega
    subst hi'
    have e : takeL q v j o = (takeS q v j o v.length).1.set (j + v.length) ((takeS q v j o v.length).1.getD (j + v.length) 0 - (takeS q v j o v.length).2):=rfl
    generalize takeS q v j o v.length = p at *
    have q1:=h2.getD (j + v.length)
    refine ⟨by omega,by omega,by omega, ?_⟩
    rw [Q0t (by omega)]
    simp -dsimp only [go_sem,↓reduceIte,Nat.reduceEqDiff,Nat.reduceAdd,Nat.reduceSub,Nat.reduceMul,Nat.reduceLT,Nat.reduceLeDiff,reduceCtorEq]
    rw [w64 (by omega)]
    refine ⟨by omega,by omega,by omega,by omega,by omega, ?_⟩
    rw [Q0K (by omega),← e]
    have e1 : (takeL q v j o).length = o.length:=by rw [e]; simpa using h1
    refine ⟨fun c hc=>nu_iC (List.mem_of_mem_drop (List.mem_of_mem_take hc)),by omega, ?_⟩
    rw [Q0t (by omega)]
    simp -dsimp only [go_sem,↓reduceIte,Nat.reduceEqDiff,Nat.reduceAdd,Nat.reduceSub,Nat.reduceMul,Nat.reduceLT,Nat.reduceLeDiff,reduceCtorEq]
    exact RtG.nothing [some 0] lE (by decide) lS lE
theorem Z5r (g : Fl) (hg : g ≠ .u) (o v : List Int) (j : Nat) (hv : dg v) (ho : dgx (j + v.length) o) (hb : -1000000000 < o.getD (j + v.length) 0 ∧ o.getD (j + v.length) 0 < 1000000000) (hj : j + v.length < o.length) (hl : o.length ≤ 4194304) :
    GC PP X8K [.rsl 0 1 j (o.length - j),sI g v] [⟨.own,T_int,iC o⟩] .any [⟨.own,T_int,iC (giveL v j o)⟩]:=by
  refine txg Y4c X5J 1 [] [] [] rfl (by kernel_rfl) ?_
  simp -dsimp only [go_sem,↓reduceIte,Nat.reduceEqDiff,Nat.reduceAdd,Nat.reduceSub,Nat.reduceMul,Nat.reduceLT,Nat.reduceLeDiff,reduceCtorEq,hg]
  refine loopI (fun i : Nat=>i ≤ v.length) (fun i=>⟨[(0,.rsl 0 1 j (o.length - j)),(1,sI g v),(4,I (giveS v j o i).2),(8,sI g v),(9,I v.length),(10,I i)],[⟨.own,T_int,iC (giveS v j o i).1⟩]⟩) (fun i=>v.length - i) 0 (Nat.zero_le _) ?_ ?_
  · simp -dsimp only [go_sem,↓reduceIte,Nat.reduceEqDiff,Nat.reduceAdd,Nat.reduceSub,Nat.reduceMul,Nat.reduceLT,Nat.reduceLeDiff,reduceCtorEq]
    simp [giveS]
  intro i hi
  obtain ⟨h1,h2,h3,h4,h5⟩:=X5c (j:=j) (t:=j + v.length) hv ho (i:=i) (by omega) hj
  simp -dsimp only [go_sem,↓reduceIte,Nat.reduceEqDiff,Nat.reduceAdd,Nat.reduceSub,Nat.reduceMul,Nat.reduceLT,Nat.reduceLeDiff,reduceCtorEq,hg]
  refine ⟨fun h=>⟨by omega,h,by omega, ?_⟩,fun h=>?_⟩
  · have q1:=h2 (j + i) (by omega)
    have q2:=hv.getD i
    have e : giveS v j o (i + 1) = ((giveS v j o i).1.set (j + i) (((giveS v j o i).1.getD (j + i) 0 + v.getD i 0 + (giveS v j o i).2) % 1000000000),((giveS v j o i).1.getD (j + i) 0 + v.getD i 0 + (giveS v j o i).2) / 1000000000):=rfl
    generalize giveS v j o i = p at *
    rw [Q0t (by omega)]
    simp -dsimp only [go_sem,↓reduceIte,Nat.reduceEqDiff,Nat.reduceAdd,Nat.reduceSub,Nat.reduceMul,Nat.reduceLT,Nat.reduceLeDiff,reduceCtorEq]
    refine ⟨by omega,by omega,by omega, ?_⟩
    rw [Q0t (by omega)]
    simp -dsimp only [go_sem,↓reduceIte,Nat.reduceEqDiff,Nat.reduceAdd,Nat.reduceSub,Nat.reduceMul,Nat.reduceLT,Nat.reduceLeDiff,reduceCtorEq]
    rw [w64 (n:=p.1.getD (j + i) 0 + v.getD i 0) (by omega),w64 (n:=p.1.getD (j + i) 0 + v.getD i 0 + p.2) (by omega),Int.tmod_eq_emod_of_nonneg (by omega),Int.tdiv_eq_ediv_of_nonneg (by omega),w64 (n:=(p.1.getD (j + i) 0 + v.getD i 0 + p.2) / 1000000000) (by omega)]
    refine ⟨by omega,by omega,by omega,by omega,by omega,i + 1,by omega,by omega,⟨by rw [e],by rw [w64 (by omega)]; omega⟩, ?_⟩
    rw [Q0K (by omega),e,Q1e]
  · have hi' : i = v.length:=by omega
    subst hi'
    have e : giveL v j o = (giveS v j o v.length).1.set (j + v.length) ((giveS v j o v.length).1.getD (j + v.length) 0 + (giveS v j o v.length).2):=rfl
    generalize giveS v j o v.length = p at *
    have q1:=h4 (j + v.length) (by omega)
    refine ⟨by omega,by omega,by omega, ?_⟩
    rw [Q0t (by omega)]
    simp -dsimp only [go_sem,↓reduceIte,Nat.reduceEqDiff,Nat.reduceAdd,Nat.reduceSub,Nat.reduceMul,Nat.reduceLT,Nat.reduceLeDiff,reduceCtorEq]
    rw [w64 (by omega)]
    refine ⟨by omega,by omega,by omega, ?_⟩
    rw [Q0K (by omega),← e]
    exact RtG.nothing [some 0] lE (by decide) lS lE
theorem Y8k {x v1 W V M : Int} (hv : 0 < v1) (hx : 0 ≤ x) (hM : 0 < M) (hW : W < (x + 1) * M) (hV : v1 * M ≤ V) : W < (x / v1 + 1) * V:=by
 have h1 : x < (x / v1 + 1) * v1:=Int.lt_ediv_add_one_mul_self x hv
 have h0 : 0 ≤ x / v1:=Int.ediv_nonneg hx (Int.le_of_lt hv)
 have h2 : (x + 1) * M ≤ ((x / v1 + 1) * v1) * M:=Int.mul_le_mul_of_nonneg_right h1 (Int.le_of_lt hM)
 have h3 : (x / v1 + 1) * (v1 * M) ≤ (x / v1 + 1) * V:=Int.mul_le_mul_of_nonneg_left hV (by omega)
 rw [Int.mul_assoc] at h2
 omega
theorem Y5g {q W V : Int} (h : W < 1000000000 * V) (hV : 0 ≤ V) (hq : 1000000000 ≤ q) : W < q * V:=by
 have:=Int.mul_le_mul_of_nonneg_right hq hV
 omega
theorem Y8l {q r x v1 v2 : Int} (he : q * v1 + r = x) : q * (v1 * 1000000000 + v2) = (x - r) * 1000000000 + q * v2:=by
 rw [Int.mul_add,← Int.mul_assoc]
 have : q * v1 = x - r:=by omega
 rw [this]
theorem Y5f {q r x v1 v2 u3 W V P : Int} (he : q * v1 + r = x) (hq : 0 ≤ q) (hP : 0 < P) (hc : r * 1000000000 + u3 < q * v2) (hW : W < (x * 1000000000 + u3 + 1) * P) (hV : (v1 * 1000000000 + v2) * P ≤ V) : W < q * V:=by
 have h1:=Int.mul_le_mul_of_nonneg_left hV hq
 rw [← Int.mul_assoc,Y8l he] at h1
 have h2 : (x * 1000000000 + u3 + 1) * P ≤ ((x - r) * 1000000000 + q * v2) * P:=Int.mul_le_mul_of_nonneg_right (by omega) (Int.le_of_lt hP)
 omega
theorem Y8m {q r x v1 v2 u3 W V P : Int} (he : q * v1 + r = x) (hq : 0 ≤ q ∧ q < 1000000000) (hP : 0 < P) (hc : q * v2 ≤ r * 1000000000 + u3) (hW : (x * 1000000000 + u3) * P ≤ W) (hW0 : 0 ≤ W) (hV : V ≤ (v1 * 1000000000 + v2 + 1) * P) (hV0 : 0 ≤ V) (hB : 1000000000 ≤ v1 * 1000000000 + v2) : (q - 1) * V ≤ W:=by
 by_cases h0 : q = 0
 ·subst h0; rw [show (0 : Int) - 1 = -1 by decide,Int.neg_mul,Int.one_mul]; omega
 ·have h1:=Int.mul_le_mul_of_nonneg_left hV (by omega : 0 ≤ q - 1)
  have h2 : (q - 1) * (v1 * 1000000000 + v2 + 1) = q * (v1 * 1000000000 + v2) + q - (v1 * 1000000000 + v2) - 1:=by
   rw [Int.sub_mul,Int.mul_add,Int.mul_one,Int.one_mul]; omega
  rw [← Int.mul_assoc,h2,Y8l he] at h1
  have h3 : ((x - r) * 1000000000 + q * v2 + q - (v1 * 1000000000 + v2) - 1) * P ≤ (x * 1000000000 + u3) * P:=Int.mul_le_mul_of_nonneg_right (by omega) (Int.le_of_lt hP)
  omega
theorem est_r {q r x v1 u1 u2 : Int} (he : q * v1 + r = x) (hx : x = u1 * 1000000000 + u2) (h2 : u2 < 1000000000) (h1 : u1 ≤ v1) (hv : 0 ≤ v1) (hr : 1000000000 ≤ r) : q < 1000000000:=by
 rcases Int.lt_or_le q 1000000000 with h | h
 ·exact h
 ·have:=Int.mul_le_mul_of_nonneg_right h hv
  omega
theorem vl_at {l : List Int} {i : Nat} : vl (l.drop i) = l.getD i 0 + 1000000000 * vl (l.drop (i + 1)):=by
 by_cases h : i < l.length
 ·exact X4G h
 ·rw [List.drop_eq_nil_of_le (by omega),List.drop_eq_nil_of_le (by omega),List.getD_eq_getElem?_getD,List.getElem?_eq_none (by omega)]; rfl
theorem vl_td {l : List Int} {i : Nat} (h : i ≤ l.length) : vl l = vl (l.take i) + (1000000000 : Int) ^ i * vl (l.drop i):=by
 have:=Q4e (l:=l.take i) (m:=l.drop i)
 rw [List.take_append_drop,List.length_take,Nat.min_eq_left h] at this
 exact this
theorem X7e {l m : List Int} {i : Nat} (hl : l.length = m.length) (h : ∀ k,k < i → l.getD k 0 = m.getD k 0) : l.take i = m.take i:=by
  apply List.ext_getElem
  · simp [hl]
  · intro k h1 h2
    have h1 : k < i ∧ k < l.length:=by have h1 : k < min i l.length:=by simpa using h1
                                       omega
    have:=h k h1.1
    simp only [List.getElem_take]
    have h3 : k < m.length:=by omega
    simpa [h1.2,h3] using this
theorem Y7F {l : List Int} {j n t : Nat} (hj : j + n ≤ l.length) (h : ∀ k,j ≤ k → k < j + n → 0 ≤ l.getD k 0 ∧ l.getD k 0 < (1000000000 : Int)) : 0 ≤ vl ((l.drop j).take n) ∧ vl ((l.drop j).take n) < (1000000000 : Int) ^ n:=by
  have hd : dg ((l.drop j).take n):=by
    refine Y0a fun k hk=>?_
    have hk : k < n ∧ k < l.length - j:=by have hk : k < min n (l.length - j):=by simpa using hk
                                           omega
    have:=h (j + k) (by omega) (by omega)
    have e : ((l.drop j).take n).getD k 0 = l.getD (j + k) 0:=by
      rw [List.getD_eq_getElem?_getD,List.getD_eq_getElem?_getD,List.getElem?_take,if_pos hk.1,List.getElem?_drop]
    rw [e]; exact this
  have h2:=vl_lt hd
  rw [List.length_take,List.length_drop,Nat.min_eq_left (by omega)] at h2
  exact ⟨Q0H hd,h2⟩
structure Dv where
 u : List Int
 q : List Int
 i : Nat
def divJ (D : Int) (v : List Int) (m : Nat) (z : Dv) : Prop :=
 z.u.length = m + v.length ∧ z.q.length = m ∧ z.i ≤ m ∧ dg z.u ∧ dg z.q ∧ (∀ k,k < z.i → z.q.getD k 0 = 0) ∧ vl z.u + vl v * vl z.q = D ∧ vl (z.u.drop z.i) < vl v
structure LdvR (u v : List Int) (j : Nat) (x u3 P : Int) : Prop where
 w0 : 0 ≤ vl (u.drop j)
 w1 : vl (u.drop j) < 1000000000 * vl v
 z : ∀ k,j + v.length < k → u.getD k 0 = 0
 p : 0 < P
 wa : (x * 1000000000 + u3) * P ≤ vl (u.drop j)
 wb : vl (u.drop j) < (x * 1000000000 + u3 + 1) * P
 wc : vl (u.drop j) < (x + 1) * (1000000000 * P)
 va : (v.getD (v.length - 1) 0 * 1000000000 + v.getD (v.length - 2) 0) * P ≤ vl v
 vb : vl v ≤ (v.getD (v.length - 1) 0 * 1000000000 + v.getD (v.length - 2) 0 + 1) * P
 vc : v.getD (v.length - 1) 0 * (1000000000 * P) ≤ vl v
 u1 : u.getD (j + v.length) 0 ≤ v.getD (v.length - 1) 0
theorem top2 {l : List Int} {n : Nat} (hn : 2 ≤ n) (hl : n ≤ l.length) (hz : vl (l.drop n) = 0) : vl l = vl (l.take (n - 2)) + (1000000000 : Int) ^ (n - 2) * (l.getD (n - 2) 0 + 1000000000 * l.getD (n - 1) 0):=by
 rw [vl_td (i:=n - 2) (by omega),vl_at,show n - 2 + 1 = n - 1 by omega,vl_at,show n - 1 + 1 = n by omega,hz,Int.mul_zero,Int.add_zero]
theorem rd_of {D : Int} {u q v : List Int} {m j : Nat} (h : divJ D v m ⟨u,q,j + 1⟩) (hv : dg v) (hn : 2 ≤ v.length) (hv1 : 0 < v.getD (v.length - 1) 0) :
  LdvR u v j (u.getD (j + v.length) 0 * 1000000000 + u.getD (j + v.length - 1) 0) (u.getD (j + v.length - 2) 0) ((1000000000 : Int) ^ (v.length - 2)):=by
 obtain ⟨h1,h2,h3,h4,h5,h6,h7,h8⟩:=h
 simp only at h1 h2 h3 h4 h5 h6 h7 h8
 have hW : vl (u.drop j) = u.getD j 0 + 1000000000 * vl (u.drop (j + 1)):=vl_at
 have g0:=h4.getD j
 have hw0 : 0 ≤ vl (u.drop j):=Q0H (h4.drop j)
 have hw1 : vl (u.drop j) < 1000000000 * vl v:=by omega
 have hP : 0 < (1000000000 : Int) ^ (v.length - 2):=Q3Z _
 have hvt:=top2 (l:=v) hn (Nat.le_refl _) (by rw [List.drop_length]; rfl)
 have hvl:=Q0H (hv.take (v.length - 2))
 have hvu:=vl_lt (hv.take (v.length - 2))
 rw [List.length_take,Nat.min_eq_left (by omega)] at hvu
 -- above the window all is 0
 have hVlt:=vl_lt hv
 have e1 : (1000000000 : Int) ^ (v.length + 1) = 1000000000 * (1000000000 : Int) ^ v.length:=by rw [Int.pow_succ,Int.mul_comm]
 have hhi : vl ((u.drop j).drop (v.length + 1)) = 0:=by
  have s:=vl_td (l:=u.drop j) (i:=v.length + 1) (by simp; omega)
  have s1:=Q0H ((h4.drop j).take (v.length + 1))
  have s2:=Q0H ((h4.drop j).drop (v.length + 1))
  rcases Int.lt_or_le 0 (vl ((u.drop j).drop (v.length + 1))) with hp | hp
  ·have : (1000000000 : Int) ^ (v.length + 1) * 1 ≤ (1000000000 : Int) ^ (v.length + 1) * vl ((u.drop j).drop (v.length + 1)):=Int.mul_le_mul_of_nonneg_left hp (Int.le_of_lt (Q3Z _))
   omega
  ·omega
 have hz : ∀ k,j + v.length < k → u.getD k 0 = 0:=by
  have z : ∀ l : List Int,dg l → vl l = 0 → ∀ k,l.getD k 0 = 0:=by
   intro l
   induction l with
   | nil=>intro _ _ k; simp
   | cons y l ih =>
    intro hd h0 k
    obtain ⟨d1,d2⟩:=Q3t.1 hd
    have:=Q0H d2
    have e : vl (y :: l) = y + 1000000000 * vl l:=rfl
    cases k with
    | zero=>show y = 0; omega
    | succ k=>rw [List.getD_cons_succ]; exact ih d2 (by omega) k
  intro k hk
  have:=z _ ((h4.drop j).drop (v.length + 1)) hhi (k - (j + v.length + 1))
  rw [List.drop_drop,List.getD_eq_getElem?_getD,List.getElem?_drop,show j + (v.length + 1) + (k - (j + v.length + 1)) = k by omega] at this
  rw [List.getD_eq_getElem?_getD]; exact this
 -- the window's top limbs
 have hut:=vl_td (l:=u.drop j) (i:=v.length - 2) (by simp; omega)
 have d0 : vl ((u.drop j).drop (v.length - 2)) = u.getD (j + v.length - 2) 0 + 1000000000 * (u.getD (j + v.length - 1) 0 + 1000000000 * u.getD (j + v.length) 0):=by
  rw [List.drop_drop] at hhi ⊢
  rw [vl_at,show j + (v.length - 2) + 1 = j + v.length - 1 by omega,vl_at,show j + v.length - 1 + 1 = j + v.length by omega,vl_at,show j + v.length + 1 = j + (v.length + 1) by omega,hhi,show j + (v.length - 2) = j + v.length - 2 by omega]
  omega
 have hul:=Q0H ((h4.drop j).take (v.length - 2))
 have huu:=vl_lt ((h4.drop j).take (v.length - 2))
 rw [List.length_take,List.length_drop,Nat.min_eq_left (by omega)] at huu
 have g1:=h4.getD (j + v.length)
 have g2:=h4.getD (j + v.length - 1)
 have g3:=h4.getD (j + v.length - 2)
 have k1:=hv.getD (v.length - 1)
 have k2:=hv.getD (v.length - 2)
 have epow : (1000000000 : Int) ^ (v.length - 1) = 1000000000 * (1000000000 : Int) ^ (v.length - 2):=by rw [show v.length - 1 = v.length - 2 + 1 by omega,Int.pow_succ,Int.mul_comm]
 have epow2 : (1000000000 : Int) ^ v.length = 1000000000 * (1000000000 * (1000000000 : Int) ^ (v.length - 2)):=by rw [← epow,show v.length = v.length - 1 + 1 by omega,Int.pow_succ,Int.mul_comm]; rfl
 generalize (1000000000 : Int) ^ (v.length - 2) = P at *
 generalize ev1 : v.getD (v.length - 1) 0 = v1 at *
 generalize ev2 : v.getD (v.length - 2) 0 = v2 at *
 generalize eu1 : u.getD (j + v.length) 0 = u1 at *
 generalize u.getD (j + v.length - 1) 0 = u2 at *
 generalize u.getD (j + v.length - 2) 0 = u3 at *
 generalize vl (v.take (v.length - 2)) = vr at *
 generalize vl ((u.drop j).take (v.length - 2)) = ur at *
 rw [d0] at hut
 have eW : vl (u.drop j) = ur + ((u1 * 1000000000 + u2) * 1000000000 + u3) * P:=by
  rw [hut,Int.mul_comm P]; congr 2; omega
 have eV : vl v = vr + (v1 * 1000000000 + v2) * P:=by
  rw [hvt,Int.mul_comm P]; congr 2; omega
 have m1 : ∀ a : Int,(a + 1) * P = a * P + P:=fun a=>by rw [Int.add_mul,Int.one_mul]
 have m2 : u3 * P ≤ 999999999 * P:=Int.mul_le_mul_of_nonneg_right (by omega) (Int.le_of_lt hP)
 have m7 : 0 ≤ u3 * P:=Int.mul_nonneg g3.1 (Int.le_of_lt hP)
 have m3 : 0 ≤ v2 * P:=Int.mul_nonneg k2.1 (Int.le_of_lt hP)
 have m4 : ((u1 * 1000000000 + u2) * 1000000000 + u3) * P = (u1 * 1000000000 + u2) * (1000000000 * P) + u3 * P:=by rw [Int.add_mul,Int.mul_assoc]
 have m5 : (v1 * 1000000000 + v2) * P = v1 * (1000000000 * P) + v2 * P:=by rw [Int.add_mul,Int.mul_assoc]
 have m6 : v2 * P ≤ 999999999 * P:=Int.mul_le_mul_of_nonneg_right (by omega) (Int.le_of_lt hP)
 refine ⟨hw0,hw1,hz,hP,by omega,by rw [m1]; omega, ?_,by rw [ev1,ev2]; omega,by rw [ev1,ev2,m1]; omega,by rw [ev1]; omega, ?_⟩
 ·rw [Int.add_mul,Int.one_mul]; omega
 ·rw [ev1,eu1]
  rcases Int.lt_or_le v1 u1 with hlt | hle
  ·exfalso
   have c1 : (v1 + 1) * (1000000000 * (1000000000 * P)) ≤ u1 * (1000000000 * (1000000000 * P)):=Int.mul_le_mul_of_nonneg_right hlt (by omega)
   have c2 : u1 * (1000000000 * (1000000000 * P)) ≤ (u1 * 1000000000 + u2) * (1000000000 * P):=by
    rw [← Int.mul_assoc]; exact Int.mul_le_mul_of_nonneg_right (by omega) (by omega)
   have c3 : (v1 + 1) * (1000000000 * (1000000000 * P)) = 1000000000 * ((v1 + 1) * (1000000000 * P)):=by rw [Int.mul_left_comm]
   have c4 : (v1 + 1) * (1000000000 * P) = v1 * (1000000000 * P) + 1000000000 * P:=by rw [Int.add_mul,Int.one_mul]
   omega
  ·exact hle
theorem Y9U {D : Int} {u q v : List Int} {m j : Nat} {x u3 P qh : Int} (h : divJ D v m ⟨u,q,j + 1⟩) (hv : dg v) (hR : LdvR u v j x u3 P) (hq : 0 ≤ qh ∧ qh < 1000000000) (hlo : vl (u.drop j) < (qh + 1) * vl v) (hhi : (qh - 1) * vl v ≤ vl (u.drop j)) :
  (0 ≤ (takeL qh v j u).getD (j + v.length) 0 → divJ D v m ⟨takeL qh v j u,q.set j qh,j⟩) ∧
  ((takeL qh v j u).getD (j + v.length) 0 < 0 → 1 ≤ qh ∧ dgx (j + v.length) (takeL qh v j u) ∧ -1000000000 < (takeL qh v j u).getD (j + v.length) 0 ∧ divJ D v m ⟨giveL v j (takeL qh v j u),q.set j (qh - 1),j⟩):=by
 obtain ⟨h1,h2,h3,h4,h5,h6,h7,h8⟩:=h
 simp only at h1 h2 h3 h4 h5 h6 h7 h8
 have hjl : j + v.length < u.length:=by omega
 obtain ⟨t1,t2,t3,t4,t5⟩:=X9E (j:=j) hq hv h4 hjl
 have wnd : ∀ w : List Int,w.length = u.length → (∀ k,k < j ∨ j + v.length < k → w.getD k 0 = u.getD k 0) → ∀ c : Int,vl w = vl u + (1000000000 : Int) ^ j * c → vl (w.drop j) = vl (u.drop j) + c:=by
  intro w hw hk c hc
  have a1:=vl_td (l:=w) (i:=j) (by omega)
  have a2:=vl_td (l:=u) (i:=j) (by omega)
  have a3 : w.take j = u.take j:=X7e hw fun k hk'=>hk k (.inl hk')
  rw [a3] at a1
  have a4 : (1000000000 : Int) ^ j * vl (w.drop j) = (1000000000 : Int) ^ j * (vl (u.drop j) + c):=by rw [Int.mul_add]; omega
  exact Int.eq_of_mul_eq_mul_left (by have:=Q3Z j; omega) a4
 have top : ∀ w : List Int,w.length = u.length → (∀ k,k < j ∨ j + v.length < k → w.getD k 0 = u.getD k 0) → dgx (j + v.length) w → ∃ lo,0 ≤ lo ∧ lo < (1000000000 : Int) ^ v.length ∧ vl (w.drop j) = lo + (1000000000 : Int) ^ v.length * w.getD (j + v.length) 0:=by
  intro w hw hk hd
  refine ⟨_,(Y7F (l:=w) (j:=j) (n:=v.length) (t:=0) (by omega) fun k k1 k2=>hd k (by omega)).1,(Y7F (l:=w) (j:=j) (n:=v.length) (t:=0) (by omega) fun k k1 k2=>hd k (by omega)).2, ?_⟩
  have a1:=vl_td (l:=w.drop j) (i:=v.length) (by simp; omega)
  rw [List.drop_drop,vl_at (i:=j + v.length)] at a1
  have a2 : vl (w.drop (j + v.length + 1)) = 0:=by
   have e : w.drop (j + v.length + 1) = List.replicate (w.length - (j + v.length + 1)) 0:=by
    apply List.ext_getElem
    ·simp
    ·intro k k1 k2
     have k1 : k < w.length - (j + v.length + 1):=by simpa using k1
     have b1:=hk (j + v.length + 1 + k) (.inr (by omega))
     rw [hR.z _ (by omega)] at b1
     simp only [List.getElem_drop,List.getElem_replicate]
     have k3 : j + v.length + 1 + k < w.length:=by omega
     simpa [k3] using b1
   rw [e,X2D]
  rw [a2,Int.mul_zero,Int.add_zero] at a1
  exact a1
 have hVlt:=vl_lt hv
 have hV0:=Q0H hv
 have eW:=wnd _ t1 t3 (-(qh * vl v)) (by rw [t4,Int.mul_neg]; omega)
 obtain ⟨lo,l1,l2,l3⟩:=top _ t1 t3 t2
 have qset : ∀ d : Int,vl (q.set j d) = vl q + (1000000000 : Int) ^ j * d:=by
  intro d
  rw [X0p (by omega),h6 j (by show j < j + 1; omega),Int.sub_zero]
 have hqset : ∀ d : Int,0 ≤ d ∧ d < 1000000000 → (q.set j d).length = m ∧ dg (q.set j d) ∧ ∀ k,k < j → (q.set j d).getD k 0 = 0:=by
  intro d hd
  exact ⟨by simpa using h2,X3G h5 hd,fun k hk=>by rw [Q0E (by omega)]; exact h6 k (by show k < j + 1; omega)⟩
 have hlo' : (qh + 1) * vl v = qh * vl v + vl v:=by rw [Int.add_mul,Int.one_mul]
 have hhi' : (qh - 1) * vl v = qh * vl v - vl v:=by rw [Int.sub_mul,Int.one_mul]
 have hpn:=Q3Z v.length
 have mulV : ∀ d : Int,vl v * ((1000000000 : Int) ^ j * d) = (1000000000 : Int) ^ j * (d * vl v):=fun d=>by rw [Int.mul_left_comm,Int.mul_comm (vl v)]
 constructor
 ·intro hp
  obtain ⟨q1,q2,q3⟩:=hqset qh hq
  have hW0 : 0 ≤ (1000000000 : Int) ^ v.length * (takeL qh v j u).getD (j + v.length) 0:=Int.mul_nonneg (Int.le_of_lt hpn) hp
  refine ⟨by show (takeL qh v j u).length = _; omega,q1,by show j ≤ m; omega,Z0G t2 ⟨hp,t5.2⟩,q2,q3, ?_, ?_⟩
  ·show vl (takeL qh v j u) + vl v * vl (q.set j qh) = D
   rw [t4,qset,Int.mul_add,mulV]; omega
  ·show vl ((takeL qh v j u).drop j) < vl v
   omega
 ·intro hp
  have hneg : (1000000000 : Int) ^ v.length * (takeL qh v j u).getD (j + v.length) 0 ≤ (1000000000 : Int) ^ v.length * (-1):=Int.mul_le_mul_of_nonneg_left (by omega) (Int.le_of_lt hpn)
  have hq1 : 1 ≤ qh:=by
   rcases Int.lt_or_le 0 qh with h | h
   ·exact h
   ·have e0 : qh = 0:=by omega
    have:=hR.w0
    have e1 : qh * vl v = 0:=by rw [e0,Int.zero_mul]
    omega
  obtain ⟨q1,q2,q3⟩:=hqset (qh - 1) (by omega)
  obtain ⟨g1,g2,g3,g4⟩:=Y5R (o:=takeL qh v j u) (j:=j) hv t2 (by omega)
  have g3' : ∀ k,k < j ∨ j + v.length < k → (giveL v j (takeL qh v j u)).getD k 0 = u.getD k 0:=fun k hk=>(g3 k hk).trans (t3 k hk)
  have eW2:=wnd _ (g1.trans t1) g3' (-(qh * vl v) + vl v) (by rw [g4,t4,Int.mul_add,Int.mul_neg]; omega)
  obtain ⟨lo2,l4,l5,l6⟩:=top _ (g1.trans t1) g3' g2
  have htop : (giveL v j (takeL qh v j u)).getD (j + v.length) 0 = 0:=by
   generalize (giveL v j (takeL qh v j u)).getD (j + v.length) 0 = y at *
   rcases Int.lt_or_le 0 y with hy | hy
   ·have : (1000000000 : Int) ^ v.length * 1 ≤ (1000000000 : Int) ^ v.length * y:=Int.mul_le_mul_of_nonneg_left hy (Int.le_of_lt hpn)
    omega
   ·rcases Int.lt_or_le y 0 with hy2 | hy2
    ·have : (1000000000 : Int) ^ v.length * y ≤ (1000000000 : Int) ^ v.length * (-1):=Int.mul_le_mul_of_nonneg_left (by omega) (Int.le_of_lt hpn)
     omega
    ·omega
  refine ⟨hq1,t2,t5.1,by show (giveL v j (takeL qh v j u)).length = _; omega,q1,by show j ≤ m; omega,Z0G g2 (by rw [htop]; decide),q2,q3, ?_, ?_⟩
  ·show vl (giveL v j (takeL qh v j u)) + vl v * vl (q.set j (qh - 1)) = D
   rw [g4,t4,qset,Int.mul_add,mulV,hhi',Int.mul_sub]; omega
  ·show vl ((giveL v j (takeL qh v j u)).drop j) < vl v
   omega
theorem Z5F {D : Int} {u q v : List Int} {m : Nat} (h : divJ D v m ⟨u,q,0⟩) (hV : 0 < vl v) : vl q = D / vl v ∧ vl u = D % vl v:=by
 obtain ⟨h1,h2,h3,h4,h5,h6,h7,h8⟩:=h
 simp only [List.drop_zero] at h4 h7 h8
 have h0:=Q0H h4
 rw [← h7]
 constructor
 ·rw [Int.add_mul_ediv_left _ _ (by omega),Int.ediv_eq_zero_of_lt h0 h8]; omega
 ·rw [Int.add_mul_emod_self_left,Int.emod_eq_of_lt h0 h8]
theorem PC.nil {f : FuncId} {r : V} {fl : Fl} (hf : fl ≠ .u) (h : ∀ (a : Option Addr) (c : Nat),c ≤ maxLen → PC PP f [.lit (.slice a 0 c)] r []) : PC PP f [.sl fl 1 0 []] r []:=by
 refine ⟨(h none 0 (by decide)).1,fun w S B xs hb hr=>?_⟩
 obtain ⟨x,xs',u1,u2,rfl,e2,e3,e4,e5⟩:=hr
 subst e4
 obtain ⟨a,c,rfl,_,hc,_⟩:=e3
 exact (h a c hc).2 w S B _ hb ⟨_,_,[],[],rfl,rfl,⟨rfl,rfl,rfl⟩,rfl,rfl⟩
theorem StI.var {n0 : Nat} {tm tm' : List (Nat × V)} {H : List Ob} (h : ∀ (t : Nat) (v : V),tm'.lookup t = some v → ∃ v0,tm.lookup t = some v0 ∧ ∀ (w : World) (S B : BS) (κ : KM) (x : Value),Rep w S B κ v0 x [] → Rep w S B κ v x []) : StI n0 ⟨tm,H⟩ ⟨tm',H⟩:=by
 rintro E a w hn ⟨κ,S,uss,hc⟩
 refine ⟨κ,S,uss,hc.toHp,fun t v ht=>?_,hc.df,hc.sz⟩
 obtain ⟨v0,h0,h1⟩:=h t v ht
 exact h1 _ _ _ _ _ (hc.fr t v0 h0)
theorem Z2d (f : Fl) (hf : f ≠ .u) (l : List Int) (hl : l.length ≤ 1048576) : PC PP Q1t [sI f l] (sI .s l) []:=by
 by_cases h0 : l.length = 0
 ·obtain rfl:=List.eq_nil_of_length_eq_zero h0
  refine PC.nil hf fun a c hc=>?_
  cases a with
  | none =>
   refine tx Q0x Q0s [] (by kernel_rfl) ?_
   simp -dsimp only [go_sem,simprocAttr,hf,Option.isNone_none]
   all_goals exact Le.empI
  | some a =>
   refine txe Q0x Q0s [] [3] [] (by kernel_rfl) ?_
   simp -dsimp only [go_sem,simprocAttr,hf,Option.isNone_some]
   refine ⟨⟨[(0,.sl .b 1 0 [])],[]⟩,StI.var ?_, ?_⟩
   ·intro t v ht
    by_cases e : t = 0
    ·subst e
     obtain rfl : V.sl .b 1 0 [] = v:=Option.some.inj ht
     refine ⟨_,rfl, ?_⟩
     rintro w S B κ x ⟨_,rfl,_⟩
     exact ⟨_,_,rfl,Nat.zero_le _,hc,rfl,.inl ⟨rfl,rfl,by intro h; cases h⟩⟩
    ·have e' : (t == 0) = false:=by simpa using e
     simp only [List.lookup,e'] at ht
     cases ht
   ·simp -dsimp only [go_sem,simprocAttr,hf]
    exact Le.ownI0 (ty:=3) (l:=[]) rfl rfl
 ·have : 0 < l.length:=by omega
  refine tx Q0x Q0s [] (by kernel_rfl) ?_
  simp -dsimp only [go_sem,simprocAttr,hf,this]
  omega
end Go.Proofs.YtchlpclgkhggeaaGreat