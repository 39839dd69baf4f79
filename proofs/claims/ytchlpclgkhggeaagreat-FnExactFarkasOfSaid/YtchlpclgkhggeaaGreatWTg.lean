/- part of the proof -/
import Derived.Test.YtchlpclgkhggeaaGreatWTd
import Derived.Test.YtchlpclgkhggeaaGreatWMl
namespace Go.Proofs.YtchlpclgkhggeaaGreat
open Go Go.RowKit
set_option maxRecDepth 100000
set_option maxHeartbeats 4000000
set_option linter.unusedVariables false
set_option linter.unusedSimpArgs false
theorem Y6V {H : List Ob} {js : List (Option Nat)} {bk : Bool} : ∀ {L L' : List V} {i : Nat} {ks : List Nat},L.length = L'.length → i < L.length → (∀ (v v' : V),L[i]? = some v → L'[i]? = some v' → Rn H js bk v v' ks) → (∀ (j : Nat) (v v' : V),j ≠ i → L[j]? = some v → L'[j]? = some v' → Rn H js bk v v' []) → RnL H js bk L L' ks
 | [],[],i,ks,_,hi,_,_=>by simp at hi
 | v :: L,v' :: L',0,ks,hl,hi,h1,h2=>by
  have q : RnL H js bk L L' []:=by
   have go : ∀ {L L' : List V},L.length = L'.length → (∀ (j : Nat) (v v' : V),L[j]? = some v → L'[j]? = some v' → Rn H js bk v v' []) → RnL H js bk L L' []:=by
    intro L
    induction L with
    | nil=>intro L' hl _; cases L' with
     | nil=>exact .nil _ _
     | cons _ _=>simp at hl
    | cons a L ih=>intro L' hl h; cases L' with
     | nil=>simp at hl
     | cons a' L'=>exact .cons _ _ _ _ _ _ [] [] (h 0 a a' rfl rfl) (ih (by simpa using hl) (fun j v v' e1 e2=>h (j + 1) v v' (by simpa using e1) (by simpa using e2)))
   exact go (by simpa using hl) (fun j w w' e1 e2=>h2 (j + 1) w w' (by omega) (by simpa using e1) (by simpa using e2))
  have:=RnL.cons js bk v v' L L' ks [] (h1 v v' rfl rfl) q
  rwa [List.append_nil] at this
 | v :: L,v' :: L',i + 1,ks,hl,hi,h1,h2=>by
  have q : RnL H js bk L L' ks:=Y6V (i:=i) (by simpa using hl) (by simpa using hi) (fun w w' e1 e2=>h1 w w' (by simpa using e1) (by simpa using e2)) (fun j w w' hj e1 e2=>h2 (j + 1) w w' (by omega) (by simpa using e1) (by simpa using e2))
  have:=RnL.cons js bk v v' L L' [] ks (h2 0 v v' (by omega) rfl rfl) q
  simpa using this
theorem Q0Q {L : List V} {j : Nat} {v : V} (h : (L.drop j)[0]? = some v) (hv : v.nu) : (∀ c ∈ (L.drop j).take 1,c.nu) = True:=by
 refine eq_true fun c hc=>?_
 cases e : L.drop j with
 | nil=>rw [e] at h; simp at h
 | cons a r =>
  rw [e] at h hc
  simp only [List.getElem?_cons_zero,Option.some.injEq] at h
  simp only [List.take_succ_cons,List.take_zero,List.mem_cons,List.not_mem_nil,or_false] at hc
  subst hc; subst h; exact hv
theorem cutLR {K : St → Prop} {s : St} {G : Prop} (h1 : K s → G) (h2 : K s) : G:=h1 h2
def gL (m : Nat) (h : Nat → V) : List V:=(List.range m).map h
theorem Q0n {m : Nat} {h : Nat → V} : (gL m h).length = m:=by simp [gL]
theorem gL_at {m i : Nat} {h : Nat → V} (hi : OM (i < m)) : ((gL m h).drop i)[0]? = some (h i):=by
 have hi : i < m:=hi
 rw [List.getElem?_drop,Nat.add_zero,gL,List.getElem?_map,List.getElem?_range hi]; rfl
theorem Q8Y {m i : Nat} {h : Nat → V} (hi : i < m) : (gL m h)[i]? = some (h i):=by rw [gL,List.getElem?_map,List.getElem?_range hi]; rfl
def updV (h : Nat → V) (i : Nat) (v : V) : Nat → V:=fun a=>if a = i then v else h a
theorem Q0g {h : Nat → V} {i : Nat} {v : V} : updV h i v i = v:=if_pos rfl
theorem Q0G {h : Nat → V} {i a : Nat} {v : V} (e : a ≠ i) : updV h i v a = h a:=if_neg e
theorem X1p {m i : Nat} {h : Nat → V} {v : V} : (gL m h).set i v = gL m (updV h i v):=by
 apply List.ext_getElem?
 intro a
 rw [List.getElem?_set]
 simp only [gL,List.length_map,List.length_range,List.getElem?_map]
 by_cases ha : a < m
 ·rw [List.getElem?_range ha]
  unfold updV
  by_cases e : i = a
  ·subst e; simp [ha]
  ·simp [e,Ne.symm e]
 ·rw [List.getElem?_eq_none (l:=List.range m) (by rw [List.length_range]; omega)]
  by_cases e : i = a
  ·subst e; simp [ha]
  ·simp [e]
theorem Z0B {m : Nat} {h : Nat → V} {v : V} (hv : v ∈ gL m h) : ∃ i,i < m ∧ v = h i:=by
 obtain ⟨i,hi,rfl⟩:=List.mem_map.1 hv
 exact ⟨i,List.mem_range.1 hi,rfl⟩
theorem X1q {H : List Ob} {js : List (Option Nat)} {bk : Bool} {m i : Nat} {h h' : Nat → V} {ks : List Nat} (hi : i < m) (h1 : Rn H js bk (h i) (h' i) ks) (h2 : ∀ a,a < m → a ≠ i → Rn H js bk (h a) (h' a) []) : RnL H js bk (gL m h) (gL m h') ks:=by
 refine Y6V (i:=i) (by rw [Q0n,Q0n]) (by rw [Q0n]; exact hi) (fun v v' e1 e2=>?_) (fun a v v' ha e1 e2=>?_)
 ·rw [Q8Y hi] at e1 e2
  obtain rfl:=Option.some.inj e1
  obtain rfl:=Option.some.inj e2
  exact h1
 ·by_cases q : a < m
  ·rw [Q8Y q] at e1 e2
   obtain rfl:=Option.some.inj e1
   obtain rfl:=Option.some.inj e2
   exact h2 a q ha
  ·rw [List.getElem?_eq_none (by rw [Q0n]; omega)] at e1; cases e1
theorem Y5c {H : List Ob} {js : List (Option Nat)} {bk : Bool} {m : Nat} {h h' : Nat → V} (h2 : ∀ a,a < m → Rn H js bk (h a) (h' a) []) : RnL H js bk (gL m h) (gL m h') []:=by
 cases m with
 | zero=>exact .nil _ _
 | succ m=>exact X1q (i:=0) (by omega) (h2 0 (by omega)) (fun a ha _=>h2 a ha)
theorem X6S {m : Nat} {h h' : Nat → V} (e : ∀ i,i < m → h i = h' i) : gL m h = gL m h':=List.map_congr_left fun i hi=>e i (List.mem_range.1 hi)
theorem Y6N {L : List V} {i : Nat} {v : V} (h : OM (i < L.length)) : L.take i ++ [v] ++ L.drop (i + 1) = L.set i v:=by
 have h : i < L.length:=h
 rw [List.set_eq_take_append_cons_drop,if_pos h,List.append_assoc]; rfl
theorem Z0M {m r k : Nat} {β : Nat → Nat} (hr : r < m) : (iC (bL m β)).take r ++ [I k] ++ (iC (bL m β)).drop (r + 1) = iC (bL m fun a=>if a = r then k else β a):=by
 rw [Y6N (OM.mk (by rw [Q0W,X3Z]; exact hr))]
 apply List.ext_getElem?
 intro a
 rw [List.getElem?_set]
 simp only [iC,bL,List.length_map,List.length_range,List.getElem?_map]
 by_cases ha : a < m
 ·rw [List.getElem?_range ha]
  by_cases e : r = a
  ·subst e; simp [ha]
  ·simp [e,Ne.symm e]
 ·rw [List.getElem?_eq_none (l:=List.range m) (by rw [List.length_range]; omega)]
  by_cases e : r = a
  ·subst e; simp [ha]
  ·simp [e]
abbrev urow (N : Nat) (g : Nat → FQ) : V:=.sl .u 3 (N + 1) (rsC .s ((rowQ (N + 1) g).map qd))
abbrev uR (N : Nat) (M : Nat → Nat → FQ) : Nat → V:=fun i=>urow N (M i)
theorem Z0k {m N : Nat} {M : Nat → Nat → FQ} : rwS .u m (N + 1) M = gL m (uR N M):=rfl
abbrev tabO (m N : Nat) (s : SP) : Ob:=⟨.own,Q0a,tbS .u m N s⟩
abbrev topO (m N : Nat) : Ob:=⟨.own,Q0a,[I N,.rsl 1 1 0 m,.rsl 3 1 0 m,.rsl 2 3 0 (N + 1)]⟩
theorem Q5q {H : List Ob} {js : List (Option Nat)} {bk : Bool} {k N : Nat} {ty : TypeId} {g : Nat → FQ} (h : H[k]? = some ⟨.own,ty,rsC .s ((rowQ (N + 1) g).map qd)⟩) : Rn H js bk (.rsl k 3 0 (N + 1)) (urow N g) [k]:=by
 have e : (rsC .s ((rowQ (N + 1) g).map qd)).take ((N + 1) * 3) = rsC .s ((rowQ (N + 1) g).map qd):=List.take_of_length_le (by rw [Q0D,Q1S]; exact Nat.le_refl _)
 refine Rn.cl js bk k 3 (N + 1) ⟨.own,ty,rsC .s ((rowQ (N + 1) g).map qd)⟩ (rsC .s ((rowQ (N + 1) g).map qd)) [] h rfl (by show (N + 1) * 3 ≤ _; rw [Q0D,Q1S]; exact Nat.le_refl _) ?_
 rw [e]
 exact X2d (fun _=>by simp)
theorem X7t {H : List Ob} {js : List (Option Nat)} {bk : Bool} {k m : Nat} {ty : TypeId} {β : Nat → Nat} (h : H[k]? = some ⟨.own,ty,iC (bL m β)⟩) : Rn H js bk (.rsl k 1 0 m) (.sl .u 1 m (iC (bL m β))) [k]:=by
 have e : (iC (bL m β)).take (m * 1) = iC (bL m β):=List.take_of_length_le (by rw [Q0W,X3Z]; omega)
 refine Rn.cl js bk k 1 m ⟨.own,ty,iC (bL m β)⟩ (iC (bL m β)) [] h rfl (by show m * 1 ≤ _; rw [Q0W,X3Z]; omega) ?_
 rw [e]
 exact RnL.lits
theorem Y9i {n0 : Nat} {tm : List (Nat × V)} {m N r : Nat} {s : SP} (hr : r < m) : StI n0 ⟨tm,[tabO m N s]⟩ ⟨tm,[topO m N,⟨.own,Q0c,gL m (updV (uR N s.M) r (.rsl 4 3 0 (N + 1)))⟩,rwO (N + 1) s.cost,⟨.own,T_int,iC (bL m s.β)⟩,rwO (N + 1) (s.M r)]⟩:=by
 have h1:=StI.open (n0:=n0) (tm:=tm) (H:=[tabO m N s]) 0 1 (ty:=Q0a) (cs:=tbS .u m N s) (cs0:=rwS .u m (N + 1) s.M) (sz:=1) (n:=m) rfl rfl Q0c
 have h2:=StI.open (n0:=n0) (tm:=tm) (H:=[⟨.own,Q0a,[I N,.rsl 1 1 0 m,.sl .u 1 m (iC (bL m s.β)),.sl .u 3 (N + 1) (rsC .s ((rowQ (N + 1) s.cost).map qd))]⟩,⟨.own,Q0c,rwS .u m (N + 1) s.M⟩]) 0 3 (ty:=Q0a) (cs:=[I N,.rsl 1 1 0 m,.sl .u 1 m (iC (bL m s.β)),.sl .u 3 (N + 1) (rsC .s ((rowQ (N + 1) s.cost).map qd))]) (cs0:=rsC .s ((rowQ (N + 1) s.cost).map qd)) (sz:=3) (n:=N + 1) rfl rfl Q0m
 have h3:=StI.open (n0:=n0) (tm:=tm) (H:=[⟨.own,Q0a,[I N,.rsl 1 1 0 m,.sl .u 1 m (iC (bL m s.β)),.rsl 2 3 0 (N + 1)]⟩,⟨.own,Q0c,rwS .u m (N + 1) s.M⟩,rwO (N + 1) s.cost]) 0 2 (ty:=Q0a) (cs:=[I N,.rsl 1 1 0 m,.sl .u 1 m (iC (bL m s.β)),.rsl 2 3 0 (N + 1)]) (cs0:=iC (bL m s.β)) (sz:=1) (n:=m) rfl rfl T_int
 have h4:=StI.open (n0:=n0) (tm:=tm) (H:=[topO m N,⟨.own,Q0c,gL m (uR N s.M)⟩,rwO (N + 1) s.cost,⟨.own,T_int,iC (bL m s.β)⟩]) 1 r (ty:=Q0c) (cs:=gL m (uR N s.M)) (cs0:=rsC .s ((rowQ (N + 1) (s.M r)).map qd)) (sz:=3) (n:=N + 1) rfl (Q8Y hr) Q0m
 rw [X1p] at h4
 exact ((h1.trans h2).trans h3).trans h4
@[go_sem] theorem J0d {H : List Ob} {id n n' : Nat} {l : List RD} (h : ownAt H[id]? (rsC .s l)) (hn : n = l.length) (hn' : n' = l.length) : Le H .b (.rsl id 3 0 n) (.sl .b 3 n' (rsC .s l)) = True:=by
 obtain ⟨ty,h⟩:=h
 subst hn; subst hn'
 refine eq_true ?_
 have:=Le.rsl (H:=H) (f:=.b) id 3 0 l.length ⟨.own,ty,rsC .s l⟩ (rsC .s l) h (.inl rfl) (by simp [Q0D]) (by
  simp only [Nat.zero_mul,List.drop_zero]
  rw [List.take_of_length_le (by simp [Q0D])]
  exact X5a fun m=>.sl _ _ _ _ _ _ (show FlLe .b .s .s from Or.inl rfl) LeL.lits)
 exact this
theorem Y6v {H : List Ob} {js : List (Option Nat)} {bk : Bool} {m N r : Nat} {s : SP} {h : Nat → V} {t1 t2 t3 t4 : TypeId} (hr : r < m) (h1 : H[1]? = some ⟨.own,t1,gL m (updV h r (.rsl 4 3 0 (N + 1)))⟩) (h2 : H[2]? = some ⟨.own,t2,rsC .s ((rowQ (N + 1) s.cost).map qd)⟩) (h3 : H[3]? = some ⟨.own,t3,iC (bL m s.β)⟩) (h4 : H[4]? = some ⟨.own,t4,rsC .s ((rowQ (N + 1) (s.M r)).map qd)⟩) (ho : ∀ a,a < m → a ≠ r → h a = uR N s.M a) :
  RnL H js bk [I N,.rsl 1 1 0 m,.rsl 3 1 0 m,.rsl 2 3 0 (N + 1)] (tbS .u m N s) [1,4,3,2]:=by
 have e : (gL m (updV h r (.rsl 4 3 0 (N + 1)))).take (m * 1) = gL m (updV h r (.rsl 4 3 0 (N + 1))):=List.take_of_length_le (by rw [Q0n]; omega)
 refine .cons _ _ _ _ _ _ [] [1,4,3,2] (.same _ _ _ trivial (fun _=>trivial)) (.cons _ _ _ _ _ _ [1,4] [3,2] ?_ (.cons _ _ _ _ _ _ [3] [2] (X7t h3) (.cons _ _ _ _ _ _ [2] [] (Q5q h2) (.nil _ _))))
 refine Rn.cl js bk 1 1 m ⟨.own,t1,gL m (updV h r (.rsl 4 3 0 (N + 1)))⟩ _ [4] h1 rfl (by show m * 1 ≤ _; rw [Q0n]; omega) ?_
 rw [e,Z0k]
 refine X1q hr (by rw [Q0g]; exact Q5q h4) (fun a ha har=>?_)
 rw [Q0G har,ho a ha har]
 exact .same _ _ _ trivial (fun _=>trivial)
def Q5H : List (Nat × (List Nat × List Nat × List Nat)):=[(10,[0,1,2,3,4,5,6,7,8,9,10,11,12,13,14,15],[],[999999]),(12,[0,1,2,3,4,5,6,7,8,9,10,11,12],[],[999999])]
theorem X6J : Txt PP Q9x Tryz.f84 Q7y Q5H:=⟨X6j,Tryz.func84,rfl,by kernel_rfl,by kernel_rfl⟩
attribute [go_sem] Q5H
theorem X9U (m N : Nat) (hm : m ≤ 20) (hN : N ≤ 60) (s : SP) (r k : Nat) (hr : r < m) (hk : k < N) :
  GC PP Q9x [.ref 0 0,I r,I k] [tabO m N s] (V.one []) [tabO m N (pivS s r k)]:=by
 obtain ⟨M,c,β⟩:=s
 obtain ⟨R,hR⟩ : ∃ R,R = rowF ⟨M,c,β⟩ r k:=⟨_,rfl⟩
 obtain ⟨F,hF⟩ : ∃ F : Nat → Nat → FQ,F = fun j a=>if a < j then R a else M r a:=⟨_,rfl⟩
 have hF0 : F 0 = M r:=by rw [hF]; funext a; simp
 have hFc : rwO (N + 1) (F (N + 1)) = rwO (N + 1) R:=X7q fun a ha=>by rw [hF]; simp [ha]
 have hFi : ∀ j,F j j = M r j:=fun j=>by rw [hF]; simp
 have hFs : ∀ j x,x = R j → upd1 (F j) j x = F (j + 1):=fun j x e=>by
  rw [hF]; funext a; unfold upd1
  by_cases q : a = j
  ·subst q; simp [e]
  ·by_cases q2 : a < j
   ·simp [q,q2,show a < j + 1 by omega]
   ·simp [q,q2,show ¬ a < j + 1 by omega]
 have hRj : ∀ j,(M r j).div (M r k) = R j:=fun j=>by rw [hR]; rfl
 clear hF
 refine txg X6J Q7e 1 [] [0,6,10] [10,12] rfl (by kernel_rfl) ?_
 obtain ⟨L,hL⟩ : ∃ L,L = gL m (updV (uR N M) r (.rsl 4 3 0 (N + 1))):=⟨_,rfl⟩
 have ho:=fun tm=>Y9i (n0:=1) (tm:=tm) (m:=m) (N:=N) (r:=r) (s:=⟨M,c,β⟩) hr
 have g0:=gL_at (m:=m) (i:=r) (h:=updV (uR N M) r (.rsl 4 3 0 (N + 1))) hr
 rw [Q0g] at g0
 have hLl:=Q0n (m:=m) (h:=updV (uR N M) r (.rsl 4 3 0 (N + 1)))
 have hrn : ∀ (H : List Ob) (js : List (Option Nat)),js[4]? = some (some 4) → RnL H js true (gL m (updV (uR N M) r (.rsl 4 3 0 (N + 1)))) (gL m (updV (uR N M) r (.rsl 4 3 0 (N + 1)))) []:=fun H js h4=>Y5c fun a _=>by
  by_cases q : a = r
  ·rw [q,Q0g]; exact .rsl _ _ _ _ _ _ _ h4
  ·rw [Q0G q]; exact .same _ _ _ trivial (fun h=>by cases h)
 simp only [← hL] at g0 hLl hrn ho
 have n0:=Q0Q g0 trivial
 simp -dsimp(disch:=first|exact om|fail)only[go_sem,simprocAttr,xE,xN,xC,xP,xA,xZ]
 refine ⟨_,ho _, ?_⟩
 simp -dsimp(disch:=first|exact om|fail)only[go_sem,simprocAttr,xE,xN,xC,xP,xA,xZ,g0,n0,hLl]
 apply cutLR (s:=⟨[(0,.ref 0 0),(1,I r),(2,I k)],[topO m N,⟨.own,Q0c,L⟩,rwO (N + 1) c,⟨.own,T_int,iC (bL m β)⟩,rwO (N + 1) R]⟩)
 ·intro main
  refine loopJ (fun j : Nat=>j ≤ N + 1) (fun j=>⟨[(0,.ref 0 0),(1,I r),(2,I k),(6,.ref 5 0),(26,I ((N + 1 : Nat) : Int)),(27,I j)],[topO m N,⟨.own,Q0c,L⟩,rwO (N + 1) c,⟨.own,T_int,iC (bL m β)⟩,rwO (N + 1) (F j),qO (M r k)]⟩) (fun j=>N + 1 - j) 0 (by omega) ?_ ?_
  ·rw [hF0]
   refine StI.ren [some 0,some 1,some 2,some 3,some 4,some 5] [[],[],[],[],[],[]] lE (by decide) ?_ lW
   simp -dsimp(disch:=first|exact om|fail)only[go_sem,simprocAttr,xE,xN,xC,xP,xA,xZ]
   exact hrn _ _ rfl
  intro j hj
  by_cases hjc : j < N + 1
  ·have hset:=Y0B (c:=N + 1) (g:=F j) (x:=R j) hjc
   rw [hFs j _ rfl] at hset
   simp -dsimp(disch:=first|exact om|fail)only[go_sem,simprocAttr,xE,xN,xC,xP,xA,xZ,g0,n0,hLl,hFi]
   refine callP (X2H .s .s fls fls (M r j) (M r k)) lL ?_
   rw [hRj]
   simp -dsimp(disch:=first|exact om|fail)only[go_sem,simprocAttr,xE,xN,xC,xP,xA,xZ,g0,n0,hLl,hset]
   refine ⟨j + 1,by omega,by omega,StI.ren [some 0,some 1,some 2,some 3,some 4,some 5] [[],[],[],[],[],[]] lE (by decide) ?_ lW⟩
   simp -dsimp(disch:=first|exact om|fail)only[go_sem,simprocAttr,xE,xN,xC,xP,xA,xZ]
   exact hrn _ _ rfl
  ·obtain rfl : j = N + 1:=by omega
   rw [hFc]
   simp -dsimp(disch:=first|exact om|fail)only[go_sem,simprocAttr,xE,xN,xC,xP,xA,xZ]
   refine ⟨_, ?_,main⟩
   refine StI.ren [some 0,some 1,some 2,some 3,some 4] [[],[],[],[],[]] lE (by decide) ?_ lW
   simp -dsimp(disch:=first|exact om|fail)only[go_sem,simprocAttr,xE,xN,xC,xP,xA,xZ]
   exact hrn _ _ rfl
 obtain ⟨W,hW⟩ : ∃ W : Nat → Nat → Nat → FQ,W = fun i a=>if a < i ∧ a ≠ r then clrF (M a) R k else M a:=⟨_,rfl⟩
 have hW0 : W 0 = M:=by rw [hW]; funext a; simp
 have hWi : ∀ i,W i i = M i:=fun i=>by rw [hW]; simp
 have hWr : ∀ (v : V),updV (uR N (W (r + 1))) r v = updV (uR N (W r)) r v:=fun v=>by
  funext a
  by_cases q : a = r
  ·rw [q,Q0g,Q0g]
  ·rw [Q0G q,Q0G q,hW]
   by_cases q2 : a < r
   ·simp [uR,q,q2,show a < r + 1 by omega]
   ·simp [uR,q,q2,show ¬ a < r + 1 by omega]
 have hWs : ∀ i a,i ≠ r → a ≠ i → W (i + 1) a = W i a:=fun i a h1 h2=>by
  rw [hW]; simp only
  by_cases q2 : a < i
  ·simp [q2,show a < i + 1 by omega]
  ·simp [q2,show ¬ a < i + 1 by omega]
 have hWe : ∀ i,i ≠ r → W (i + 1) i = clrF (M i) R k:=fun i h1=>by rw [hW]; simp [h1]
 have hWm : ∀ a,a < m → a ≠ r → W m a = clrF (M a) R k:=fun a h1 h2=>by rw [hW]; simp [h1,h2]
 clear hW
 simp -dsimp(disch:=first|exact om|fail)only[go_sem,simprocAttr,xE,xN,xC,xP,xA,xZ,hLl]
 refine loopJ (fun i : Nat=>i ≤ m) (fun i=>⟨[(0,.ref 0 0),(1,I r),(2,I k),(56,I m),(57,I i)],[topO m N,⟨.own,Q0c,gL m (updV (uR N (W i)) r (.rsl 4 3 0 (N + 1)))⟩,rwO (N + 1) c,⟨.own,T_int,iC (bL m β)⟩,rwO (N + 1) R]⟩) (fun i=>m - i) 0 (by omega) ?_ ?_
 ·rw [hW0,← hL]
  refine StI.ren [some 0,some 1,some 2,some 3,some 4] [[],[],[],[],[]] lE (by decide) ?_ lW
  simp -dsimp(disch:=first|exact om|fail)only[go_sem,simprocAttr,xE,xN,xC,xP,xA,xZ]
  exact hrn _ _ rfl
 intro i hi
 have hrw : ∀ (H : List Ob) (js : List (Option Nat)),js[4]? = some (some 4) → RnL H js true (gL m (updV (uR N (W i)) r (.rsl 4 3 0 (N + 1)))) (gL m (updV (uR N (W i)) r (.rsl 4 3 0 (N + 1)))) []:=fun H js h4=>Y5c fun a _=>by
  by_cases q : a = r
  ·rw [q,Q0g]; exact .rsl _ _ _ _ _ _ _ h4
  ·rw [Q0G q]; exact .same _ _ _ trivial (fun h=>by cases h)
 by_cases him : i < m
 ·by_cases hir : i = r
  ·have e : ((i : Nat) : Int) = (r : Int):=by omega
   simp -dsimp(disch:=first|exact om|fail)only[go_sem,simprocAttr,xE,xN,xC,xP,xA,xZ,e]
   refine ⟨i + 1,by omega,by omega, ?_⟩
   have hWr':=hWr (.rsl 4 3 0 (N + 1))
   rw [← hir] at hWr' hrw ⊢
   rw [hWr']
   refine StI.ren [some 0,some 1,some 2,some 3,some 4] [[],[],[],[],[]] lE (by decide) ?_ lW
   simp -dsimp(disch:=first|exact om|fail)only[go_sem,simprocAttr,xE,xN,xC,xP,xA,xZ]
   exact hrw _ _ rfl
  ·have e : ¬ ((i : Nat) : Int) = (r : Int):=by omega
   have ho2 : ∀ tm,StI 1 ⟨tm,[topO m N,⟨.own,Q0c,gL m (updV (uR N (W i)) r (.rsl 4 3 0 (N + 1)))⟩,rwO (N + 1) c,⟨.own,T_int,iC (bL m β)⟩,rwO (N + 1) R]⟩ ⟨tm,[topO m N,⟨.own,Q0c,gL m (updV (updV (uR N (W i)) r (.rsl 4 3 0 (N + 1))) i (.rsl 5 3 0 (N + 1)))⟩,rwO (N + 1) c,⟨.own,T_int,iC (bL m β)⟩,rwO (N + 1) R,rwO (N + 1) (M i)]⟩:=fun tm=>by
    have h:=StI.open (n0:=1) (tm:=tm) (H:=[topO m N,⟨.own,Q0c,gL m (updV (uR N (W i)) r (.rsl 4 3 0 (N + 1)))⟩,rwO (N + 1) c,⟨.own,T_int,iC (bL m β)⟩,rwO (N + 1) R]) 1 i (ty:=Q0c) (cs:=gL m (updV (uR N (W i)) r (.rsl 4 3 0 (N + 1)))) (cs0:=rsC .s ((rowQ (N + 1) (M i)).map qd)) (sz:=3) (n:=N + 1) rfl (by rw [Q8Y him,Q0G hir,uR,hWi]) Q0m
    rw [X1p] at h
    exact h
   obtain ⟨L2,hL2⟩ : ∃ L2,L2 = gL m (updV (updV (uR N (W i)) r (.rsl 4 3 0 (N + 1))) i (.rsl 5 3 0 (N + 1))):=⟨_,rfl⟩
   have g1:=gL_at (m:=m) (i:=i) (h:=updV (updV (uR N (W i)) r (.rsl 4 3 0 (N + 1))) i (.rsl 5 3 0 (N + 1))) him
   have g2:=gL_at (m:=m) (i:=r) (h:=updV (updV (uR N (W i)) r (.rsl 4 3 0 (N + 1))) i (.rsl 5 3 0 (N + 1))) hr
   rw [Q0g] at g1
   rw [Q0G (Ne.symm hir),Q0g] at g2
   have hl2:=Q0n (m:=m) (h:=updV (updV (uR N (W i)) r (.rsl 4 3 0 (N + 1))) i (.rsl 5 3 0 (N + 1)))
   have hcl : ∀ (js : List (Option Nat)) (H : List Ob),js[4]? = some (some 4) → H[5]? = some (rwO (N + 1) (clrF (M i) R k)) → RnL H js true (gL m (updV (updV (uR N (W i)) r (.rsl 4 3 0 (N + 1))) i (.rsl 5 3 0 (N + 1)))) (gL m (updV (uR N (W (i + 1))) r (.rsl 4 3 0 (N + 1)))) [5]:=fun js H h1 h2=>X1q him (by
     rw [Q0g,Q0G hir,uR,hWe i hir]
     exact Q5q h2) (fun a ha hai=>by
     rw [Q0G hai]
     by_cases q : a = r
     ·rw [q,Q0g,Q0g]; exact .rsl _ _ _ _ _ _ _ h1
     ·rw [Q0G q,Q0G q,show uR N (W (i + 1)) a = uR N (W i) a by unfold uR; rw [hWs i a hir hai]]; exact .same _ _ _ trivial (fun h=>by cases h))
   simp only [← hL2] at ho2 g1 g2 hl2 hcl
   have n1:=Q0Q g1 trivial
   have n2:=Q0Q g2 trivial
   have qc:=X5b (N + 1) (by omega) (M i) R k (by omega)
   simp -dsimp(disch:=first|exact om|fail)only[go_sem,simprocAttr,xE,xN,xC,xP,xA,xZ,e]
   refine ⟨_,ho2 _, ?_⟩
   simp -dsimp(disch:=first|exact om|fail)only[go_sem,simprocAttr,xE,xN,xC,xP,xA,xZ,g1,g2,n1,n2,hl2]
   refine callGL [5] qc rfl (by decide) lW lW lE lF lW ?_
   simp -dsimp(disch:=first|exact om|fail)only[go_sem,simprocAttr,xE,xN,xC,xP,xA,xZ]
   refine ⟨i + 1,by omega,by omega, ?_⟩
   refine StI.ren [some 0,some 1,some 2,some 3,some 4] [[],[5],[],[],[]] lE (by decide) ?_ lW
   simp -dsimp(disch:=first|exact om|fail)only[go_sem,simprocAttr,xE,xN,xC,xP,xA,xZ]
   exact hcl _ _ rfl rfl
 ·obtain rfl : i = m:=by omega
  have g1:=gL_at (m:=i) (i:=r) (h:=updV (uR N (W i)) r (.rsl 4 3 0 (N + 1))) hr
  rw [Q0g] at g1
  have n1:=Q0Q g1 trivial
  have hl2:=Q0n (m:=i) (h:=updV (uR N (W i)) r (.rsl 4 3 0 (N + 1)))
  have qc:=X5b (N + 1) (by omega) c R k (by omega)
  have hb:=Z0M (k:=k) (β:=β) hr
  simp -dsimp(disch:=first|exact om|fail)only[go_sem,simprocAttr,xE,xN,xC,xP,xA,xZ,g1,n1,hl2]
  refine callGL [2] qc rfl (by decide) lW lW lE lF lW ?_
  simp -dsimp(disch:=first|exact om|fail)only[go_sem,simprocAttr,xE,xN,xC,xP,xA,xZ,hb]
  refine RtG.ren [some 0] [[1,4,3,2]] lE (by decide) ?_ (.tup _ _ _ _ _ (.nil _ _))
  simp -dsimp(disch:=first|exact om|fail)only[go_sem,simprocAttr,xE,xN,xC,xP,xA,xZ]
  refine Y6v (s:=pivS ⟨M,c,β⟩ r k) (t2:=Q0m) (t4:=Q0m) hr rfl ?_ rfl ?_ (fun a ha har=>?_)
  ·show some (rwO (N + 1) (clrF c R k)) = _
   rw [hR]; rfl
  ·show some (rwO (N + 1) R) = _
   rw [show (pivS ⟨M,c,β⟩ r k).M r = R by rw [hR]; exact if_pos rfl]
  ·unfold uR
   rw [hWm a ha har,hR,show (pivS ⟨M,c,β⟩ r k).M a = clrF (M a) (rowF ⟨M,c,β⟩ r k) k from if_neg har]
theorem X3i {H : List Ob} {f : Fl} {l : List RD} : LeL H f (rsC .s l) (rsC .s l):=X5a fun m=>.sl _ _ _ _ _ _ (show FlLe f .s .s from Or.inl rfl) LeL.lits
@[go_sem] theorem J1V {H : List Ob} {n : Nat} {l : List RD} : Le H .b (.sl .u 3 n (rsC .s l)) (.sl .b 3 n (rsC .s l)) = True:=eq_true (.sl _ _ _ _ _ _ (show FlLe .b .u .b from rfl) X3i)
@[go_sem] theorem le_uI {H : List Ob} {n : Nat} {l : List Int} : Le H .b (.sl .u 1 n (iC l)) (.sl .b 1 n (iC l)) = True:=eq_true (.sl _ _ _ _ _ _ (show FlLe .b .u .b from rfl) LeL.lits)
@[go_sem] theorem J1U {H : List Ob} {m c : Nat} {M : Nat → Nat → FQ} : Le H .b (.sl .u 1 m (rwS .u m c M)) (.sl .b 1 m (rwS .b m c M)) = True:=eq_true (.sl _ _ _ _ _ _ (show FlLe .b .u .b from rfl) (by
 unfold rwS
 generalize List.range m = L
 induction L with
 | nil=>exact .nil
 | cons a L ih=>exact .cons _ _ _ _ (.sl _ _ _ _ _ _ (show FlLe .b .u .b from rfl) X3i) ih))
theorem Y7v {m N r : Nat} {deep : Bool} {s : SP} {low : FQ} (h : lvS s N (entS s m N deep) m = some (r,low)) : nxtS m N deep s = pivS s r (entS s m N deep):=by unfold nxtS; rw [h]
theorem Y0V {m N : Nat} {deep : Bool} {s : SP} : entS s m N deep ≤ N:=by unfold entS; exact Q0J.1
theorem Y7X {m N : Nat} {deep : Bool} {s : SP} (hN : N ≤ 60) (hβ : ∀ i,i < m → s.β i ≤ 60) : ∀ n i,i < m → (itS m N deep s n).β i ≤ 60
 | 0,i,hi=>hβ i hi
 | n + 1,i,hi=>by
  have ih:=Y7X (deep:=deep) hN hβ n
  have h1:=Y0V (m:=m) (N:=N) (deep:=deep) (s:=itS m N deep s n)
  show (nxtS m N deep (itS m N deep s n)).β i ≤ 60
  unfold nxtS
  split
  ·show (if _ then _ else _ : Nat) ≤ 60
   split
   ·omega
   ·exact ih i hi
  ·exact ih i hi
theorem Y4R (m N : Nat) (hm : m ≤ 20) (hN : N ≤ 60) (deep : Bool) (s : SP) (K : Nat) (hβ : ∀ i,i < m → s.β i ≤ 60)
  (h1 : stopS m N deep (itS m N deep s K) = true) (h2 : ∀ n,n < K → stopS m N deep (itS m N deep s n) = false) :
  GC PP Q4c [.ref 0 0,Bo deep] [tabO m N s] (Bo (decide (entS (itS m N deep s K) m N deep = N))) [tabO m N (itS m N deep s K)]:=by
 have hb:=Y7X (deep:=deep) hN hβ
 refine txg Y1u X0R 1 [] [] [12] rfl (by kernel_rfl) ?_
 simp -dsimp(disch:=first|exact om|fail)only[go_sem,simprocAttr,xE,xN,xC,xP,xA,xZ]
 refine loopJ (fun n : Nat=>n ≤ K) (fun n=>⟨[(0,.ref 0 0),(1,Bo deep)],[tabO m N (itS m N deep s n)]⟩) (fun n=>K - n) 0 (by omega) ?_ ?_
 ·rw [show itS m N deep s 0 = s from rfl]
  exact StI.ren [some 0] [[]] lE (by decide) lW lW
 intro n hn
 have hbn:=hb n
 have hs1 : itS m N deep s (n + 1) = nxtS m N deep (itS m N deep s n):=rfl
 have h2n:=h2 n
 have hend : stopS m N deep (itS m N deep s n) = true → n = K:=fun e=>by
  rcases Nat.lt_or_eq_of_le hn with h | h
  ·rw [h2n h] at e; cases e
  ·exact h
 have hstop : stopS m N deep (itS m N deep s n) = (decide (entS (itS m N deep s n) m N deep = N) || (lvS (itS m N deep s n) N (entS (itS m N deep s n) m N deep) m).isNone):=rfl
 have hres : n = K → itS m N deep s n = itS m N deep s K:=fun e=>by rw [e]
 generalize itS m N deep s K = z at *
 generalize hu : itS m N deep s n = u at *
 have hpe : entS u m N deep = fstN (fun j=>!(basB u.β m j) && decide (0 < sgnS u m N j deep)) N:=rfl
 have hle:=Y0V (m:=m) (N:=N) (deep:=deep) (s:=u)
 obtain ⟨f1,f2,f3⟩:=Q0J (P:=fun j=>!(basB u.β m j) && decide (0 < sgnS u m N j deep)) (n:=N)
 rw [← hpe] at f1 f2 f3
 clear hpe
 generalize hk : entS u m N deep = k at *
 simp -dsimp(disch:=first|exact om|fail)only[go_sem,simprocAttr,xE,xN,xC,xP,xA,xZ]
 refine loopI (fun y : Nat × Int=>(y.2 = -1 ∧ y.1 ≤ k) ∨ (y.2 = (k : Int) ∧ k < N ∧ y.1 = k + 1)) (fun y=>⟨[(0,.ref 0 0),(1,Bo deep),(5,I y.2),(6,I y.1)],[tabO m N u]⟩) (fun y=>N - y.1) (0,-1) (.inl ⟨rfl,by show 0 ≤ k; omega⟩) ?_ ?_
 ·simp -dsimp(disch:=first|exact om|fail)only[go_sem,simprocAttr,xE,xN,xC,xP,xA,xZ]
 rintro ⟨j,e⟩ hj
 simp only at hj ⊢
 rcases hj with ⟨rfl,hjk⟩ | ⟨rfl,hkN,rfl⟩
 ·by_cases hjN : j < N
  ·simp -dsimp(disch:=first|exact om|fail)only[go_sem,simprocAttr,xE,xN,xC,xP,xA,xZ]
   refine callP (Y5M m N hm hN u j (by omega)) lL ?_
   by_cases hP : (!(basB u.β m j) && decide (0 < sgnS u m N j deep)) = true
   ·have hjk2 : j = k:=by
     rcases Nat.lt_or_eq_of_le hjk with h | h
     ·have:=f2 j h
      rw [hP] at this; cases this
     ·exact h
    rw [Bool.and_eq_true,Bool.not_eq_true',decide_eq_true_iff] at hP
    simp -dsimp(disch:=first|exact om|fail)only[go_sem,simprocAttr,xE,xN,xC,xP,xA,xZ,hP.1]
    refine callP (Y2v m N hm hN u j hjN hbn deep) lL ?_
    simp -dsimp(disch:=first|exact om|fail)only[go_sem,simprocAttr,xE,xN,xC,xP,xA,xZ,hP.2]
    exact ⟨(j + 1,(j : Int)),.inr ⟨by rw [hjk2],by rw [hjk2]⟩,by show N - (j + 1) < N - j; omega,rfl,rfl⟩
   ·have hjk2 : j + 1 ≤ k:=by
     rcases Nat.lt_or_eq_of_le hjk with h | h
     ·exact h
     ·exact absurd (by rw [h]; exact f3 (by omega)) hP
    cases hb : basB u.β m j
    ·have hs : ¬ 0 < sgnS u m N j deep:=fun h=>hP (by rw [hb]; simp [h])
     simp -dsimp(disch:=first|exact om|fail)only[go_sem,simprocAttr,xE,xN,xC,xP,xA,xZ]
     refine callP (Y2v m N hm hN u j hjN hbn deep) lL ?_
     simp -dsimp(disch:=first|exact om|fail)only[go_sem,simprocAttr,xE,xN,xC,xP,xA,xZ,hs]
     exact ⟨(j + 1,-1),.inl ⟨rfl,hjk2⟩,by show N - (j + 1) < N - j; omega,rfl,rfl⟩
    ·simp -dsimp(disch:=first|exact om|fail)only[go_sem,simprocAttr,xE,xN,xC,xP,xA,xZ]
     exact ⟨(j + 1,-1),.inl ⟨rfl,hjk2⟩,by show N - (j + 1) < N - j; omega,rfl,rfl⟩
  ·obtain rfl : j = N:=by omega
   have hkj : k = j:=by omega
   have hzz : u = z:=hres (hend (by rw [hstop]; simp [hkj]))
   rw [← hzz,hk,show decide (k = j) = true from decide_eq_true hkj]
   simp -dsimp(disch:=first|exact om|fail)only[go_sem,simprocAttr,xE,xN,xC,xP,xA,xZ]
   exact RtG.nothing [some 0] lE (by decide) lW lW
 ·by_cases hjN : k + 1 < N
  all_goals
   have hjN2:=hjN
   simp -dsimp(disch:=first|exact om|fail)only[go_sem,simprocAttr,xE,xN,xC,xP,xA,xZ]
   refine callP (Y5K m N hm hN u k hkN hbn) lL ?_
   cases hl : lvS u N k m with
   | none =>
    have hzz : u = z:=hres (hend (by rw [hstop,hl]; simp))
    rw [← hzz,hk,show decide (k = N) = false from decide_eq_false (by omega)]
    simp -dsimp(disch:=first|exact om|fail)only[go_sem,simprocAttr,xE,xN,xC,xP,xA,xZ]
    exact RtG.nothing [some 0] lE (by decide) lW lW
   | some rl =>
    obtain ⟨r,low⟩:=rl
    have hr:=Y4O hl
    have hr0 : ¬ (r : Int) < 0:=by omega
    have hnK : n < K:=by
     rcases Nat.lt_or_eq_of_le hn with h | h
     ·exact h
     ·rw [← hres h,hstop,hl] at h1
      simp only [Option.isNone_some,Bool.or_false,decide_eq_true_iff] at h1
      omega
    rw [Y7v (by rw [hk]; exact hl),hk] at hs1
    rw [show lvV (some (r,low)) = ((r : Int),low) from rfl]
    simp -dsimp(disch:=first|exact om|fail)only[go_sem,simprocAttr,xE,xN,xC,xP,xA,xZ,hr0]
    refine callG' [0] (X9U m N hm hN u r k hr hkN) (by decide) lL lL lE lF ?_
    simp -dsimp(disch:=first|exact om|fail)only[go_sem,simprocAttr,xE,xN,xC,xP,xA,xZ]
    refine ⟨n + 1,by omega,by omega, ?_⟩
    rw [hs1]
    exact StI.ren [some 0] [[]] lE (by decide) lW lW
end Go.Proofs.YtchlpclgkhggeaaGreat