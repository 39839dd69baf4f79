/- part of the proof -/
import Derived.Test.YtchlpclgkhggeaaGreatWTh
namespace Go.Proofs.YtchlpclgkhggeaaGreat
open Go Go.RowKit
set_option maxRecDepth 100000
set_option maxHeartbeats 4000000
set_option linter.unusedVariables false
set_option linter.unusedSimpArgs false
noncomputable def nzR (s : SP) (i c : Nat) : Nat:=fstN (fun j=>decide ((s.M i j).num ≠ 0)) c
noncomputable def clnI (c : Nat) (s : SP) (i : Nat) : SP:=if c ≤ s.β i ∧ nzR s i c < c then pivS s i (nzR s i c) else s
noncomputable def cln (c : Nat) (s : SP) : Nat → SP
 | 0=>s
 | i + 1=>clnI c (cln c s i) i
def kp (c : Nat) (s : SP) : Nat → List Nat
 | 0=>[]
 | i + 1=>if s.β i < c then kp c s i ++ [i] else kp c s i
def kpI (c m : Nat) (s : SP) (k : Nat) : Nat:=(kp c s m).getD k 0
def secM (c m N : Nat) (s : SP) (k j : Nat) : FQ:=if j < c then s.M (kpI c m s k) j else s.M (kpI c m s k) N
def secB (c m : Nat) (s : SP) (k : Nat) : Nat:=s.β (kpI c m s k)
def secC (p : Prg) (c m N : Nat) (s : SP) : Nat → Nat → FQ
 | 0=>fun j=>if j < c then FQ.ofInt (p.c.getD j 0) else FQ.ofInt 0
 | k + 1=>clrF (secC p c m N s k) (secM c m N s k) (secB c m s k)
def secS (p : Prg) (c m N : Nat) (s : SP) : SP:=⟨secM c m N s,secC p c m N s (kp c s m).length,secB c m s⟩
theorem kp_le {c : Nat} {s : SP} : ∀ {i : Nat},(kp c s i).length ≤ i
 | 0=>Nat.le_refl _
 | i + 1=>by
  have:=kp_le (c:=c) (s:=s) (i:=i)
  rw [kp]; split
  ·rw [List.length_append]; show _ + 1 ≤ _; omega
  ·omega
theorem Y7S {c : Nat} {s : SP} {i : Nat} : ∀ {m : Nat},i ≤ m → ∃ r,kp c s m = kp c s i ++ r
  | 0,h=>⟨[],by obtain rfl : i = 0:=by omega
                simp⟩
  | m + 1,h=>by
    rcases Nat.lt_or_eq_of_le h with h1 | rfl
    · obtain ⟨r,hr⟩:=Y7S (c:=c) (s:=s) (m:=m) (Nat.le_of_lt_succ h1)
      rw [kp,hr]; split
      · exact ⟨r ++ [m],by rw [List.append_assoc]⟩
      · exact ⟨r,rfl⟩
    · exact ⟨[],by simp⟩
theorem Z0w {c m : Nat} {s : SP} {i : Nat} (hi : i < m) (hb : s.β i < c) : kpI c m s (kp c s i).length = i:=by
 obtain ⟨r,hr⟩:=Y7S (c:=c) (s:=s) (i:=i + 1) (m:=m) hi
 unfold kpI
 rw [hr,kp,if_pos hb,List.append_assoc,List.getD_eq_getElem?_getD,List.getElem?_append_right (Nat.le_refl _)]
 simp
theorem Y7T {c : Nat} {s : SP} : ∀ {m a : Nat},a ∈ kp c s m → a < m ∧ s.β a < c
 | 0,a,h=>by cases h
 | m + 1,a,h=>by
  rw [kp] at h
  split at h
  ·rcases List.mem_append.1 h with h | h
   ·have:=Y7T h; exact ⟨by omega,this.2⟩
   ·rw [List.mem_singleton] at h; subst h; exact ⟨by omega,by assumption⟩
  ·have:=Y7T h; exact ⟨by omega,this.2⟩
theorem X6R {c m : Nat} {s : SP} {k : Nat} (hk : k < (kp c s m).length) : kpI c m s k < m ∧ s.β (kpI c m s k) < c:=by
 refine Y7T ?_
 unfold kpI
 rw [List.getD_eq_getElem?_getD,List.getElem?_eq_getElem hk]
 exact List.getElem_mem hk
theorem Z0J {c : Nat} (hc : c ≤ 60) {m : Nat} {s : SP} (hβ : ∀ i,i < m → s.β i ≤ 60) : ∀ n i,i < m → (cln c s n).β i ≤ 60
 | 0,i,hi=>hβ i hi
 | n + 1,i,hi=>by
  have ih:=Z0J hc hβ n
  show (clnI c (cln c s n) n).β i ≤ 60
  unfold clnI
  split
  ·rename_i h
   show (if _ then _ else _ : Nat) ≤ 60
   split
   ·omega
   ·exact ih i hi
  ·exact ih i hi
abbrev topG (m N a b d : Nat) : Ob:=⟨.own,Q0a,[I N,.rsl a 1 0 m,.rsl b 1 0 m,.rsl d 3 0 (N + 1)]⟩
theorem Y6t {n0 : Nat} {tm : List (Nat × V)} {m N r : Nat} {s : SP} {ob : Ob} (hr : r < m) : StI n0 ⟨tm,[tabO m N s,ob]⟩ ⟨tm,[topG m N 2 4 3,ob,⟨.own,Q0c,gL m (updV (uR N s.M) r (.rsl 5 3 0 (N + 1)))⟩,rwO (N + 1) s.cost,⟨.own,T_int,iC (bL m s.β)⟩,rwO (N + 1) (s.M r)]⟩:=by
 have h1:=StI.open (n0:=n0) (tm:=tm) (H:=[tabO m N s,ob]) 0 1 (ty:=Q0a) (cs:=tbS .u m N s) (cs0:=rwS .u m (N + 1) s.M) (sz:=1) (n:=m) rfl rfl Q0c
 have h2:=StI.open (n0:=n0) (tm:=tm) (H:=[⟨.own,Q0a,[I N,.rsl 2 1 0 m,.sl .u 1 m (iC (bL m s.β)),.sl .u 3 (N + 1) (rsC .s ((rowQ (N + 1) s.cost).map qd))]⟩,ob,⟨.own,Q0c,rwS .u m (N + 1) s.M⟩]) 0 3 (ty:=Q0a) (cs:=[I N,.rsl 2 1 0 m,.sl .u 1 m (iC (bL m s.β)),.sl .u 3 (N + 1) (rsC .s ((rowQ (N + 1) s.cost).map qd))]) (cs0:=rsC .s ((rowQ (N + 1) s.cost).map qd)) (sz:=3) (n:=N + 1) rfl rfl Q0m
 have h3:=StI.open (n0:=n0) (tm:=tm) (H:=[⟨.own,Q0a,[I N,.rsl 2 1 0 m,.sl .u 1 m (iC (bL m s.β)),.rsl 3 3 0 (N + 1)]⟩,ob,⟨.own,Q0c,rwS .u m (N + 1) s.M⟩,rwO (N + 1) s.cost]) 0 2 (ty:=Q0a) (cs:=[I N,.rsl 2 1 0 m,.sl .u 1 m (iC (bL m s.β)),.rsl 3 3 0 (N + 1)]) (cs0:=iC (bL m s.β)) (sz:=1) (n:=m) rfl rfl T_int
 have h4:=StI.open (n0:=n0) (tm:=tm) (H:=[topG m N 2 4 3,ob,⟨.own,Q0c,gL m (uR N s.M)⟩,rwO (N + 1) s.cost,⟨.own,T_int,iC (bL m s.β)⟩]) 2 r (ty:=Q0c) (cs:=gL m (uR N s.M)) (cs0:=rsC .s ((rowQ (N + 1) (s.M r)).map qd)) (sz:=3) (n:=N + 1) rfl (Q8Y hr) Q0m
 rw [X1p] at h4
 exact ((h1.trans h2).trans h3).trans h4
theorem Y6u {n0 : Nat} {tm : List (Nat × V)} {m N : Nat} {s : SP} {ob : Ob} : StI n0 ⟨tm,[tabO m N s,ob]⟩ ⟨tm,[topG m N 2 4 3,ob,⟨.own,Q0c,rwS .u m (N + 1) s.M⟩,rwO (N + 1) s.cost,⟨.own,T_int,iC (bL m s.β)⟩]⟩:=by
 have h1:=StI.open (n0:=n0) (tm:=tm) (H:=[tabO m N s,ob]) 0 1 (ty:=Q0a) (cs:=tbS .u m N s) (cs0:=rwS .u m (N + 1) s.M) (sz:=1) (n:=m) rfl rfl Q0c
 have h2:=StI.open (n0:=n0) (tm:=tm) (H:=[⟨.own,Q0a,[I N,.rsl 2 1 0 m,.sl .u 1 m (iC (bL m s.β)),.sl .u 3 (N + 1) (rsC .s ((rowQ (N + 1) s.cost).map qd))]⟩,ob,⟨.own,Q0c,rwS .u m (N + 1) s.M⟩]) 0 3 (ty:=Q0a) (cs:=[I N,.rsl 2 1 0 m,.sl .u 1 m (iC (bL m s.β)),.sl .u 3 (N + 1) (rsC .s ((rowQ (N + 1) s.cost).map qd))]) (cs0:=rsC .s ((rowQ (N + 1) s.cost).map qd)) (sz:=3) (n:=N + 1) rfl rfl Q0m
 have h3:=StI.open (n0:=n0) (tm:=tm) (H:=[⟨.own,Q0a,[I N,.rsl 2 1 0 m,.sl .u 1 m (iC (bL m s.β)),.rsl 3 3 0 (N + 1)]⟩,ob,⟨.own,Q0c,rwS .u m (N + 1) s.M⟩,rwO (N + 1) s.cost]) 0 2 (ty:=Q0a) (cs:=[I N,.rsl 2 1 0 m,.sl .u 1 m (iC (bL m s.β)),.rsl 3 3 0 (N + 1)]) (cs0:=iC (bL m s.β)) (sz:=1) (n:=m) rfl rfl T_int
 exact (h1.trans h2).trans h3
theorem Y5u {H : List Ob} {js : List (Option Nat)} {bk : Bool} {m N r a b d q : Nat} {s : SP} {h : Nat → V} {t1 t2 t3 t4 : TypeId} (hr : r < m) (h1 : H[a]? = some ⟨.own,t1,gL m (updV h r (.rsl q 3 0 (N + 1)))⟩) (h2 : H[d]? = some ⟨.own,t2,rsC .s ((rowQ (N + 1) s.cost).map qd)⟩) (h3 : H[b]? = some ⟨.own,t3,iC (bL m s.β)⟩) (h4 : H[q]? = some ⟨.own,t4,rsC .s ((rowQ (N + 1) (s.M r)).map qd)⟩) (ho : ∀ a,a < m → a ≠ r → h a = uR N s.M a) :
  RnL H js bk [I N,.rsl a 1 0 m,.rsl b 1 0 m,.rsl d 3 0 (N + 1)] (tbS .u m N s) [a,q,b,d]:=by
 have e : (gL m (updV h r (.rsl q 3 0 (N + 1)))).take (m * 1) = gL m (updV h r (.rsl q 3 0 (N + 1))):=List.take_of_length_le (by rw [Q0n]; omega)
 refine .cons _ _ _ _ _ _ [] [a,q,b,d] (.same _ _ _ trivial (fun _=>trivial)) (.cons _ _ _ _ _ _ [a,q] [b,d] ?_ (.cons _ _ _ _ _ _ [b] [d] (X7t h3) (.cons _ _ _ _ _ _ [d] [] (Q5q h2) (.nil _ _))))
 refine Rn.cl js bk a 1 m ⟨.own,t1,gL m (updV h r (.rsl q 3 0 (N + 1)))⟩ _ [q] h1 rfl (by show m * 1 ≤ _; rw [Q0n]; omega) ?_
 rw [e,Z0k]
 refine X1q hr (by rw [Q0g]; exact Q5q h4) (fun a ha har=>?_)
 rw [Q0G har,ho a ha har]
 exact .same _ _ _ trivial (fun _=>trivial)
theorem Z0i {m N : Nat} {s : SP} : LeL [] .s (tbS .u m N s) (tbS .s m N s):=by
 refine .cons _ _ _ _ (.lit _) (.cons _ _ _ _ (.sl _ _ _ _ _ _ (show FlLe .s .u .s from rfl) ?_) (.cons _ _ _ _ (.sl _ _ _ _ _ _ (show FlLe .s .u .s from rfl) LeL.lits) (.cons _ _ _ _ (.sl _ _ _ _ _ _ (show FlLe .s .u .s from rfl) X3i) .nil)))
 unfold rwS
 generalize List.range m = L
 induction L with
 | nil=>exact .nil
 | cons a L ih=>exact .cons _ _ _ _ (.sl _ _ _ _ _ _ (show FlLe .s .u .s from rfl) X3i) ih
theorem Y9t {c n : Nat} {g : Nat → FQ} (h : c ≤ n) : (rsC .s ((rowQ n g).map qd)).take (c * 3) = rsC .s ((rowQ c g).map qd):=by
 rw [Y0x,← List.map_take]
 unfold rowQ
 rw [← List.map_take,List.take_range,Nat.min_eq_left h]
theorem Y4o {m N : Nat} {s : SP} : ∀ v ∈ tbS .u m N s,v.flat:=by
 intro v hv
 simp only [tbS,List.mem_cons,List.not_mem_nil,or_false] at hv
 rcases hv with rfl | rfl | rfl | rfl <;> trivial
theorem Z0h {m N : Nat} {s : SP} : ∀ v ∈ tbS .s m N s,v.cl:=by
 intro v hv
 simp only [tbS,List.mem_cons,List.not_mem_nil,or_false] at hv
 rcases hv with rfl | rfl | rfl | rfl <;> trivial
def Q4X : List (Nat × (List Nat × List Nat × List Nat)):=[(21,[0,1,2,3,4,5,6,7,8,9,10,11,12,13,14,15,16,17,18,19],[],[999999,1000121]),(27,[0,1,2,3,4,5,6,7,8,9,10,11,12],[],[999999])]
theorem X5u : Txt PP Q7S Tryz.f54 Q5Y Q4X:=⟨X5f,Tryz.func54,rfl,by kernel_rfl,by kernel_rfl⟩
attribute [go_sem] Q4X
theorem Y3E (f : Fl) (hf : f ≠ .u) (p : Prg) (r c : Nat) (ho : okP' p = true) (hr : p.rows = r) (hc : p.cols = c) (m N : Nat) (hm : m ≤ 20) (hN : N ≤ 60) (hcN : c ≤ N) (s : SP) (hβ : ∀ i,i < m → s.β i ≤ 60) :
  GC PP Q7S [pV f p,.ref 0 0] [tabO m N s] (.ref 1 0) [⟨.frz,Q0a,tbS .s m N (cln c s m)⟩,tabO (kp c (cln c s m) m).length c (secS p c m N (cln c s m))]:=by
 have hcle:=Z0J (c:=c) (by omega) hβ
 obtain ⟨⟨r1,r2⟩,⟨c1,c2⟩,hal,hbl,hcl,ia,ib,ic⟩:=Q0F ho
 simp only [pV,pC,hr,hc]
 refine txg X5u Q5K 1 [] [1,5,8,10,26] [8,21,27] rfl (by kernel_rfl) ?_
 simp -dsimp(disch:=first|exact om|fail)only[go_sem,simprocAttr,xE,xN,xC,xP,xA,xZ]
 refine ⟨_,Y6u, ?_⟩
 simp -dsimp(disch:=first|exact om|fail)only[go_sem,simprocAttr,xE,xN,xC,xP,xA,xZ]
 refine loopJ (fun i : Nat=>i ≤ m) (fun i=>⟨[(1,.ref 0 0),(2,.ref 1 0),(18,I m),(19,I i)],[tabO m N (cln c s i),prO f r c p]⟩) (fun i=>m - i) 0 (by omega) ?_ ?_
 ·rw [show cln c s 0 = s from rfl]
  refine StI.ren [some 0,some 1] [[2,4,3],[]] lE (by decide) ?_ lW
  simp -dsimp(disch:=first|exact om|fail)only[go_sem,simprocAttr,xE,xN,xC,xP,xA,xZ]
  exact Y0q rfl rfl rfl
 intro i hi
 by_cases him : i < m
 ·have hβu:=hcle i
  have hcln : cln c s (i + 1) = clnI c (cln c s i) i:=rfl
  generalize cln c s i = u at *
  have hkz : nzR u i c = fstN (fun j=>decide ((u.M i j).num ≠ 0)) c:=rfl
  obtain ⟨f1,f2,f3⟩:=Q0J (P:=fun j=>decide ((u.M i j).num ≠ 0)) (n:=c)
  rw [← hkz] at f1 f2 f3
  have hcl : clnI c u i = if c ≤ u.β i ∧ nzR u i c < c then pivS u i (nzR u i c) else u:=rfl
  generalize nzR u i c = kz at *
  have hsh : ∀ (z : SP) (H : List Ob) (js : List (Option Nat)),H[2]? = some ⟨.own,Q0c,gL m (updV (uR N z.M) i (.rsl 5 3 0 (N + 1)))⟩ → H[3]? = some (rwO (N + 1) z.cost) → H[4]? = some ⟨.own,T_int,iC (bL m z.β)⟩ → H[5]? = some (rwO (N + 1) (z.M i)) → RnL H js true [I N,.rsl 2 1 0 m,.rsl 4 1 0 m,.rsl 3 3 0 (N + 1)] (tbS .u m N z) [2,5,4,3]:=fun z H js h1 h2 h3 h4=>Y5u him h1 h2 h3 h4 (fun _ _ _=>rfl)
  simp -dsimp(disch:=first|exact om|fail)only[go_sem,simprocAttr,xE,xN,xC,xP,xA,xZ]
  refine loopJ (fun y : Nat × SP=>(y.2 = u ∧ y.1 ≤ kz) ∨ (c ≤ u.β i ∧ kz < c ∧ y.2 = pivS u i kz ∧ y.1 = kz + 1)) (fun y=>⟨[(1,.ref 0 0),(2,.ref 1 0),(5,I i),(6,I y.1),(18,I m),(19,I i)],[tabO m N y.2,prO f r c p]⟩) (fun y=>c - y.1) (0,u) (.inl ⟨rfl,by show 0 ≤ kz; omega⟩) ?_ ?_
  ·exact StI.ren [some 0,some 1] [[],[]] lE (by decide) lW lW
  rintro ⟨j,z⟩ hy
  simp only at hy ⊢
  have g0:=gL_at (m:=m) (i:=i) (h:=updV (uR N z.M) i (.rsl 5 3 0 (N + 1))) him
  rw [Q0g] at g0
  have n0:=Q0Q g0 trivial
  have hLl:=Q0n (m:=m) (h:=updV (uR N z.M) i (.rsl 5 3 0 (N + 1)))
  simp -dsimp(disch:=first|exact om|fail)only[go_sem,simprocAttr,xE,xN,xC,xP,xA,xZ]
  refine ⟨_,Y6t him, ?_⟩
  rcases hy with ⟨rfl,hjk⟩ | ⟨hcb,hkc,rfl,rfl⟩
  ·by_cases hjc : j < c
   ·by_cases hcb : c ≤ z.β i
    ·have hcb' : (c : Int) ≤ (z.β i : Int):=by omega
     simp -dsimp(disch:=first|exact om|fail)only[go_sem,simprocAttr,xE,xN,xC,xP,xA,xZ,g0,n0,hLl]
     refine callP (sgn_c (z.M i j)) lL ?_
     by_cases hz : (z.M i j).num = 0
     ·have e1 : sgZ (z.M i j).num = 0:=Q1c.2 hz
      have hjk2 : j + 1 ≤ kz:=by
       rcases Nat.lt_or_eq_of_le hjk with h | h
       ·exact h
       ·have:=f3 (by omega)
        rw [← h] at this
        simp [hz] at this
      simp -dsimp(disch:=first|exact om|fail)only[go_sem,simprocAttr,xE,xN,xC,xP,xA,xZ,e1]
      refine ⟨(j + 1,z),.inl ⟨rfl,hjk2⟩,by show c - (j + 1) < c - j; omega, ?_⟩
      refine StI.ren [some 0,some 1] [[2,5,4,3],[]] lE (by decide) ?_ lW
      simp -dsimp(disch:=first|exact om|fail)only[go_sem,simprocAttr,xE,xN,xC,xP,xA,xZ]
      exact hsh _ _ _ rfl rfl rfl rfl
     ·have e1 : ¬ sgZ (z.M i j).num = 0:=fun q=>hz (Q1c.1 q)
      have hjk2 : j = kz:=by
       rcases Nat.lt_or_eq_of_le hjk with h | h
       ·have:=f2 j h
        simp [hz] at this
       ·exact h
      subst hjk2
      simp -dsimp(disch:=first|exact om|fail)only[go_sem,simprocAttr,xE,xN,xC,xP,xA,xZ,e1]
      refine ⟨⟨[(1,.ref 0 0),(2,.ref 1 0),(5,I i),(6,I j),(18,I m),(19,I i)],[tabO m N z,prO f r c p]⟩, ?_, ?_⟩
      ·refine StI.ren [some 0,some 1] [[2,5,4,3],[]] lE (by decide) ?_ lW
       simp -dsimp(disch:=first|exact om|fail)only[go_sem,simprocAttr,xE,xN,xC,xP,xA,xZ]
       exact hsh _ _ _ rfl rfl rfl rfl
      simp -dsimp(disch:=first|exact om|fail)only[go_sem,simprocAttr,xE,xN,xC,xP,xA,xZ]
      refine callG' [0] (X9U m N hm hN z i j him (by omega)) (by decide) lL lL lE lF ?_
      simp -dsimp(disch:=first|exact om|fail)only[go_sem,simprocAttr,xE,xN,xC,xP,xA,xZ]
      exact ⟨(j + 1,pivS z i j),.inr ⟨rfl,rfl⟩,by show c - (j + 1) < c - j; omega,StI.ren [some 0,some 1] [[],[]] lE (by decide) lW lW⟩
    ·have hcb' : ¬ (c : Int) ≤ (z.β i : Int):=by omega
     simp -dsimp(disch:=first|exact om|fail)only[go_sem,simprocAttr,xE,xN,xC,xP,xA,xZ,g0,n0,hLl]
     refine ⟨i + 1,by omega,by omega, ?_⟩
     rw [hcln,hcl,if_neg (fun q=>hcb q.1)]
     refine StI.ren [some 0,some 1] [[2,5,4,3],[]] lE (by decide) ?_ lW
     simp -dsimp(disch:=first|exact om|fail)only[go_sem,simprocAttr,xE,xN,xC,xP,xA,xZ]
     exact hsh _ _ _ rfl rfl rfl rfl
   ·simp -dsimp(disch:=first|exact om|fail)only[go_sem,simprocAttr,xE,xN,xC,xP,xA,xZ,g0,n0,hLl]
    refine ⟨i + 1,by omega,by omega, ?_⟩
    rw [hcln,hcl,if_neg (fun q=>by omega)]
    refine StI.ren [some 0,some 1] [[2,5,4,3],[]] lE (by decide) ?_ lW
    simp -dsimp(disch:=first|exact om|fail)only[go_sem,simprocAttr,xE,xN,xC,xP,xA,xZ]
    exact hsh _ _ _ rfl rfl rfl rfl
  ·have hb : (pivS u i kz).β i = kz:=if_pos rfl
   have hcb' : ¬ (c : Int) ≤ ((pivS u i kz).β i : Int):=by rw [hb]; omega
   by_cases hjc : kz + 1 < c
   ·simp -dsimp(disch:=first|exact om|fail)only[go_sem,simprocAttr,xE,xN,xC,xP,xA,xZ,g0,n0,hLl]
    refine ⟨i + 1,by omega,by omega, ?_⟩
    rw [hcln,hcl,if_pos ⟨hcb,hkc⟩]
    refine StI.ren [some 0,some 1] [[2,5,4,3],[]] lE (by decide) ?_ lW
    simp -dsimp(disch:=first|exact om|fail)only[go_sem,simprocAttr,xE,xN,xC,xP,xA,xZ]
    exact hsh _ _ _ rfl rfl rfl rfl
   ·simp -dsimp(disch:=first|exact om|fail)only[go_sem,simprocAttr,xE,xN,xC,xP,xA,xZ,g0,n0,hLl]
    refine ⟨i + 1,by omega,by omega, ?_⟩
    rw [hcln,hcl,if_pos ⟨hcb,hkc⟩]
    refine StI.ren [some 0,some 1] [[2,5,4,3],[]] lE (by decide) ?_ lW
    simp -dsimp(disch:=first|exact om|fail)only[go_sem,simprocAttr,xE,xN,xC,xP,xA,xZ]
    exact hsh _ _ _ rfl rfl rfl rfl
 ·obtain rfl : m = i:=by omega
  generalize cln c s m = z at *
  simp -dsimp(disch:=first|exact om|fail)only[go_sem,simprocAttr,xE,xN,xC,xP,xA,xZ]
  refine ⟨_,StI.share 0 rfl Y4o Z0i Z0h, ?_⟩
  simp -dsimp(disch:=first|exact om|fail)only[go_sem,simprocAttr,xE,xN,xC,xP,xA,xZ]
  refine loopJ (fun j : Nat=>j ≤ c) (fun j=>⟨[(1,.ref 0 0),(2,.ref 1 0),(7,.ref 2 0),(8,I j)],[⟨.frz,Q0a,tbS .s m N z⟩,prO f r c p,⟨.own,Q0a,[I c,.emp,.emp,.rsl 3 3 0 j]⟩,rwO j (secC p c m N z 0)]⟩) (fun j=>c - j) 0 (by omega) ?_ ?_
  ·refine StI.ren [some 0,some 1,some 2,none] [[],[],[],[]] lE (by decide) ?_ lW
   simp -dsimp(disch:=first|exact om|fail)only[go_sem,simprocAttr,xE,xN,xC,xP,xA,xZ]
   rfl
  intro j hj
  by_cases hjc : j < c
  ·have hCj : secC p c m N z 0 j = FQ.ofInt (p.c.getD j 0):=if_pos hjc
   have hpush:=Q3Y (c:=j) (g:=secC p c m N z 0) (x:=FQ.ofInt (p.c.getD j 0)) hCj
   have hbr : -100 ≤ p.c.getD j 0 ∧ p.c.getD j 0 ≤ 100:=Q8U ic (by omega)
   simp -dsimp(disch:=first|exact om|fail)only[go_sem,simprocAttr,xE,xN,xC,xP,xA,xZ]
   refine callP (Q0C (p.c.getD j 0) (by omega)) lL ?_
   simp -dsimp(disch:=first|exact om|fail)only[go_sem,simprocAttr,xE,xN,xC,xP,xA,xZ,hpush]
   exact ⟨j + 1,by omega,by omega,StI.ren [some 0,some 1,some 2,some 4] [[],[],[],[]] lE (by decide) lW lW⟩
  ·obtain rfl : c = j:=by omega
   have hCj : secC p c m N z 0 c = FQ.ofInt 0:=if_neg (Nat.lt_irrefl _)
   have hpush:=Q3Y (c:=c) (g:=secC p c m N z 0) (x:=FQ.ofInt 0) hCj
   simp -dsimp(disch:=first|exact om|fail)only[go_sem,simprocAttr,xE,xN,xC,xP,xA,xZ]
   refine callP (Q0C 0 (by omega)) lL ?_
   simp -dsimp(disch:=first|exact om|fail)only[go_sem,simprocAttr,xE,xN,xC,xP,xA,xZ,hpush]
   have hkat:=fun i (h1 : i < m) h2=>Z0w (c:=c) (m:=m) (s:=z) (i:=i) h1 h2
   have hkl : ∀ i,(kp c z (i + 1)) = if z.β i < c then kp c z i ++ [i] else kp c z i:=fun i=>rfl
   have hkle : ∀ i,(kp c z i).length ≤ i:=fun i=>kp_le
   refine loopJ (fun i : Nat=>i ≤ m) (fun i=>⟨[(1,.ref 0 0),(2,.ref 1 0),(7,.ref 2 0),(95,.sl .s 1 m (rwS .s m (N + 1) z.M)),(96,I m),(97,I i)],[⟨.frz,Q0a,tbS .s m N z⟩,prO f r c p,⟨.own,Q0a,[I c,.rsl 3 1 0 (kp c z i).length,.rsl 4 1 0 (kp c z i).length,.rsl 5 3 0 (c + 1)]⟩,⟨.own,Q0c,rwS .u (kp c z i).length (c + 1) (secM c m N z)⟩,⟨.own,T_int,iC (bL (kp c z i).length (secB c m z))⟩,rwO (c + 1) (secC p c m N z 0)]⟩) (fun i=>m - i) 0 (by omega) ?_ ?_
   ·refine StI.ren [some 0,some 1,some 2,none,none,some 4] [[],[],[],[],[],[]] lE (by decide) ?_ lW
    rw [show kp c z 0 = [] from rfl]
    simp -dsimp(disch:=first|exact om|fail)only[go_sem,simprocAttr,xE,xN,xC,xP,xA,xZ]
    exact ⟨rfl,rfl⟩
   intro i hi
   by_cases him2 : i < m
   ·have hlen:=hkle i
    have hkl:=hkl i
    have hkat:=hkat i him2
    by_cases hbi : z.β i < c
    ·have hbi' : (z.β i : Int) < (c : Int):=by omega
     have htk:=Y9t (g:=z.M i) (show c ≤ N + 1 by omega)
     rw [if_pos hbi] at hkl
     have hkl' : (kp c z (i + 1)).length = (kp c z i).length + 1:=by rw [hkl,List.length_append]; rfl
     have hkat:=hkat hbi
     obtain ⟨k,hk⟩ : ∃ k,k = (kp c z i).length:=⟨_,rfl⟩
     rw [← hk] at hkat hlen hkl'
     have hsM : ∀ j,secM c m N z k j = if j < c then z.M i j else z.M i N:=fun j=>by unfold secM; rw [hkat]
     have hsB : secB c m z k = z.β i:=by unfold secB; rw [hkat]
     have hrow : rowQ c (z.M i) = rowQ c (secM c m N z k):=X9I fun j hj=>by rw [hsM,if_pos hj]
     rw [hrow] at htk
     have hpu:=Q3Y (c:=c) (g:=secM c m N z k) (x:=z.M i N) (by rw [hsM,if_neg (Nat.lt_irrefl _)])
     have hbas : iC (bL k (secB c m z) ++ [(z.β i : Int)]) = iC (bL (k + 1) (secB c m z)):=by rw [Y3V,hsB]
     simp -dsimp(disch:=first|exact om|fail)only[go_sem,simprocAttr,xE,xN,xC,xP,xA,xZ,hbi',htk,← hk]
     refine mtBsl [] (by simp -dsimp(disch:=first|exact om|fail)only[go_sem,simprocAttr,xE,xN,xC,xP,xA,xZ,htk]; exact ⟨rfl,rfl⟩) (hkp0 (by simp -dsimp(disch:=first|exact om|fail)only[go_sem,simprocAttr,xE,xN,xC,xP,xA,xZ,htk])) lW ?_
     simp -dsimp(disch:=first|exact om|fail)only[go_sem,simprocAttr,xE,xN,xC,xP,xA,xZ,htk]
     refine mtApp [6,7] (by simp -dsimp(disch:=first|exact om|fail)only[go_sem,simprocAttr,xE,xN,xC,xP,xA,xZ,hpu]; exact ⟨rfl,rfl⟩) (hkp0 lW) lW ?_
     simp -dsimp(disch:=first|exact om|fail)only[go_sem,simprocAttr,xE,xN,xC,xP,xA,xZ]
     refine mtBsl [] (by simp -dsimp(disch:=first|exact om|fail)only[go_sem,simprocAttr,xE,xN,xC,xP,xA,xZ]; exact ⟨rfl,rfl⟩) (hkp0 lW) lW ?_
     simp -dsimp(disch:=first|exact om|fail)only[go_sem,simprocAttr,xE,xN,xC,xP,xA,xZ]
     refine mtApp [3,9] (by simp -dsimp(disch:=first|exact om|fail)only[go_sem,simprocAttr,xE,xN,xC,xP,xA,xZ]; exact ⟨rfl,rfl⟩) (hkp0 lW) lW ?_
     simp -dsimp(disch:=first|exact om|fail)only[go_sem,simprocAttr,xE,xN,xC,xP,xA,xZ,hbas]
     refine ⟨i + 1,by omega,by omega, ?_⟩
     rw [hkl']
     refine StI.ren [some 0,some 1,some 2,some 10,some 11,some 5] [[],[],[],[8],[],[]] lE (by decide) ?_ lW
     simp -dsimp(disch:=first|exact om|fail)only[go_sem,simprocAttr,xE,xN,xC,xP,xA,xZ]
     rw [Y4w]
     exact RnL.app (k1:=[]) (RnL.same (fun v hv=>by obtain ⟨l,rfl⟩:=X7p hv; trivial) (fun h=>by cases h)) (.cons _ _ _ _ _ _ [8] [] (Q5q rfl) (.nil _ _))
    ·have hbi' : ¬ (z.β i : Int) < (c : Int):=by omega
     rw [if_neg hbi] at hkl
     simp -dsimp(disch:=first|exact om|fail)only[go_sem,simprocAttr,xE,xN,xC,xP,xA,xZ,hbi']
     refine ⟨i + 1,by omega,by omega, ?_⟩
     rw [hkl]
     exact StI.ren [some 0,some 1,some 2,some 3,some 4,some 5] [[],[],[],[],[],[]] lE (by decide) lW lW
   ·obtain rfl : m = i:=by omega
    have hkS:=fun k=>X6R (c:=c) (m:=m) (s:=z) (k:=k)
    have hm':=hkle m
    have hfin : secS p c m N z = ⟨secM c m N z,secC p c m N z (kp c z m).length,secB c m z⟩:=rfl
    have hBk : ∀ k,secB c m z k = z.β (kpI c m z k):=fun k=>rfl
    have hCk : ∀ k,secC p c m N z (k + 1) = clrF (secC p c m N z k) (secM c m N z k) (secB c m z k):=fun k=>rfl
    rw [hfin]
    clear hkat hkl hkle hfin
    generalize (kp c z m).length = m' at *
    generalize secM c m N z = M' at *
    generalize hB' : secB c m z = B' at *
    generalize secC p c m N z = C' at *
    simp -dsimp(disch:=first|exact om|fail)only[go_sem,simprocAttr,xE,xN,xC,xP,xA,xZ]
    refine loopJ (fun k : Nat=>k ≤ m') (fun k=>⟨[(1,.ref 0 0),(2,.ref 1 0),(7,.ref 2 0),(157,.rsl 3 1 0 m'),(158,I m'),(159,I k)],[⟨.frz,Q0a,tbS .s m N z⟩,prO f r c p,⟨.own,Q0a,[I c,.rsl 3 1 0 m',.rsl 4 1 0 m',.rsl 5 3 0 (c + 1)]⟩,⟨.own,Q0c,rwS .u m' (c + 1) M'⟩,⟨.own,T_int,iC (bL m' B')⟩,rwO (c + 1) (C' k)]⟩) (fun k=>m' - k) 0 (by omega) ?_ ?_
    ·exact StI.ren [some 0,some 1,some 2,some 3,some 4,some 5] [[],[],[],[],[],[]] lE (by decide) lW lW
    intro k hk
    by_cases hkm : k < m'
    ·obtain ⟨hk1,hk2⟩:=hkS k hkm
     rw [← hBk] at hk2
     have ho2 : ∀ tm,StI 1 ⟨tm,[⟨.frz,Q0a,tbS .s m N z⟩,prO f r c p,⟨.own,Q0a,[I c,.rsl 3 1 0 m',.rsl 4 1 0 m',.rsl 5 3 0 (c + 1)]⟩,⟨.own,Q0c,rwS .u m' (c + 1) M'⟩,⟨.own,T_int,iC (bL m' B')⟩,rwO (c + 1) (C' k)]⟩ ⟨tm,[⟨.frz,Q0a,tbS .s m N z⟩,prO f r c p,⟨.own,Q0a,[I c,.rsl 3 1 0 m',.rsl 4 1 0 m',.rsl 5 3 0 (c + 1)]⟩,⟨.own,Q0c,gL m' (updV (uR c M') k (.rsl 6 3 0 (c + 1)))⟩,⟨.own,T_int,iC (bL m' B')⟩,rwO (c + 1) (C' k),rwO (c + 1) (M' k)]⟩:=fun tm=>by
      have h:=StI.open (n0:=1) (tm:=tm) (H:=[⟨.frz,Q0a,tbS .s m N z⟩,prO f r c p,⟨.own,Q0a,[I c,.rsl 3 1 0 m',.rsl 4 1 0 m',.rsl 5 3 0 (c + 1)]⟩,⟨.own,Q0c,gL m' (uR c M')⟩,⟨.own,T_int,iC (bL m' B')⟩,rwO (c + 1) (C' k)]) 3 k (ty:=Q0c) (cs:=gL m' (uR c M')) (cs0:=rsC .s ((rowQ (c + 1) (M' k)).map qd)) (sz:=3) (n:=c + 1) rfl (Q8Y hkm) Q0m
      rw [X1p] at h
      exact h
     have g1:=gL_at (m:=m') (i:=k) (h:=updV (uR c M') k (.rsl 6 3 0 (c + 1))) hkm
     rw [Q0g] at g1
     have n1:=Q0Q g1 trivial
     have hl2:=Q0n (m:=m') (h:=updV (uR c M') k (.rsl 6 3 0 (c + 1)))
     have qc:=X5b (c + 1) (by omega) (C' k) (M' k) (B' k) (by omega)
     rw [← hCk] at qc
     simp -dsimp(disch:=first|exact om|fail)only[go_sem,simprocAttr,xE,xN,xC,xP,xA,xZ]
     refine ⟨_,ho2 _, ?_⟩
     simp -dsimp(disch:=first|exact om|fail)only[go_sem,simprocAttr,xE,xN,xC,xP,xA,xZ,g1,n1,hl2]
     refine callGL [5] qc rfl (by decide) lW lW lE lF lW ?_
     simp -dsimp(disch:=first|exact om|fail)only[go_sem,simprocAttr,xE,xN,xC,xP,xA,xZ]
     refine ⟨k + 1,by omega,by omega,StI.ren [some 0,some 1,some 2,some 3,some 4,some 5] [[],[],[],[6],[],[]] lE (by decide) ?_ lW⟩
     simp -dsimp(disch:=first|exact om|fail)only[go_sem,simprocAttr,xE,xN,xC,xP,xA,xZ]
     exact X1q hkm (by rw [Q0g]; exact Q5q rfl) (fun a ha hak=>by
      rw [Q0G hak]
      exact .same _ _ _ trivial (fun h=>by cases h))
    ·obtain rfl : m' = k:=by omega
     simp -dsimp(disch:=first|exact om|fail)only[go_sem,simprocAttr,xE,xN,xC,xP,xA,xZ]
     refine RtG.ren [some 0,some 2] [[],[3,4,5]] lE (by decide) ?_ lW
     simp -dsimp(disch:=first|exact om|fail)only[go_sem,simprocAttr,xE,xN,xC,xP,xA,xZ]
     exact Y0q (s:=⟨M',C' m',B'⟩) rfl rfl rfl
end Go.Proofs.YtchlpclgkhggeaaGreat