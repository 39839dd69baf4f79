/- part of the proof -/
import Derived.Test.YtchlpclgkhggeaaGreatWUc
namespace Go.Proofs.YtchlpclgkhggeaaGreat
open Go Go.RowKit
set_option maxRecDepth 100000
set_option maxHeartbeats 4000000
set_option linter.unusedVariables false
set_option linter.unusedSimpArgs false
theorem Y1X {F : Nat → Nat → Int} {E g : Nat → Int} (hF : F = fun j a=>if a < j then E a else g a) {j : Nat} {x : Int} (e : x = E j) : updZ (F j) j x = F (j + 1):=by
 rw [hF]; funext a; unfold updZ
 by_cases q : a = j
 ·subst q; simp [e]
 ·by_cases q2 : a < j
  ·simp [q,q2,show a < j + 1 by omega]
  ·simp [q,q2,show ¬ a < j + 1 by omega]
theorem X6V {N : Nat} {g h : Nat → Int} (e : ∀ j,j < N + 1 → g j = h j) : zwO N g = zwO N h:=by unfold zwO; rw [Y4e e]
theorem Q9W {m N r : Nat} {f : Nat → V} {q : Nat} {W : Nat → Nat → Int} {H : List Ob} {js : List (Option Nat)} (h : js[q]? = some (some q)) : RnL H js true (gL m (updV (uZ N W) r (.rsl q 2 0 (N + 1)))) (gL m (updV (uZ N W) r (.rsl q 2 0 (N + 1)))) []:=Y5c fun a _=>by
 by_cases e : a = r
 ·rw [e,Q0g]; exact .rsl _ _ _ _ _ _ _ h
 ·rw [Q0G e]; exact .same _ _ _ trivial (fun h=>by cases h)
theorem Y6r {H : List Ob} {js : List (Option Nat)} {bk : Bool} {m N a b : Nat} {s : IT} {t1 t2 : TypeId} (h1 : H[a]? = some ⟨.own,t1,rwZ .u m N s.W⟩) (h2 : H[b]? = some ⟨.own,t2,iC (bL m s.β)⟩) :
  RnL H js bk [.rsl a 1 0 m,Bo (zb s.d),sI .s (lim s.d.natAbs),.rsl b 1 0 m,I N,.sl .u 1 N (frC N s.fr)] (tiC .u m N s) [a,b]:=by
 have e : (rwZ .u m N s.W).take (m * 1) = rwZ .u m N s.W:=List.take_of_length_le (by rw [Q9U]; omega)
 refine .cons _ _ _ _ _ _ [a] [b] ?_ (.cons _ _ _ _ _ _ [] [b] (.same _ _ _ trivial (fun _=>trivial)) (.cons _ _ _ _ _ _ [] [b] (.same _ _ _ trivial (fun _=>trivial)) (.cons _ _ _ _ _ _ [b] [] (X7t h2) (.cons _ _ _ _ _ _ [] [] (.same _ _ _ trivial (fun _=>trivial)) (.cons _ _ _ _ _ _ [] [] (.same _ _ _ trivial (fun _=>trivial)) (.nil _ _))))))
 refine Rn.cl js bk a 1 m ⟨.own,t1,rwZ .u m N s.W⟩ _ [] h1 rfl (by show m * 1 ≤ _; rw [Q9U]; omega) ?_
 rw [e]
 exact RnL.same (fun v hv=>by obtain ⟨l,rfl⟩:=X4R hv; trivial) (fun _ v hv=>by obtain ⟨l,rfl⟩:=X4R hv; trivial)
theorem X9D (m N : Nat) (hm : m ≤ 20) (hN : N ≤ 60) (s : IT) (hz : ISz m N s) (hd : s.d ≠ 0) (hβ : ∀ i,i < m → s.β i ≤ 60) (r k : Nat) (hr : r < m) (hk : k < N) :
  GC PP Q3V [.ref 0 0,I r,I k] [tiO m N s] (V.one []) [tiO m N (pivI s r k)]:=by
 have hzd:=hz.d
 have hzW:=hz.W
 obtain ⟨W,d,β,fr⟩:=s
 simp only at hzd hzW hd
 obtain ⟨E,hE⟩ : ∃ E,E = elI ⟨W,d,β,fr⟩ r k:=⟨_,rfl⟩
 have hEr : E r = W r:=by rw [hE]; funext c; exact if_pos rfl
 have hE1 : ∀ i c,i ≠ r → W i k ≠ 0 → W r c ≠ 0 → E i c = (W i c * W r k - W i k * W r c).tdiv d:=fun i c h1 h2 h3=>by
  rw [hE]; show (if i = r then _ else (if W i k ≠ 0 ∧ W r c ≠ 0 then _ else _ : Int).tdiv d) = _
  rw [if_neg h1,if_pos ⟨h2,h3⟩]
 have hE2 : ∀ i c,i ≠ r → (W i k = 0 ∨ W r c = 0) → E i c = (W i c * W r k).tdiv d:=fun i c h1 h2=>by
  rw [hE]; show (if i = r then _ else (if W i k ≠ 0 ∧ W r c ≠ 0 then _ else _ : Int).tdiv d) = _
  rw [if_neg h1,if_neg (fun q=>h2.elim q.1 q.2)]
 have hp1 : 0 < W r k → pivI ⟨W,d,β,fr⟩ r k = ⟨E,W r k,fun i=>if i = r then k else β i,fr⟩:=fun h=>by
  rw [hE]; unfold pivI; simp only [if_pos h]
 have hp2 : ¬ 0 < W r k → pivI ⟨W,d,β,fr⟩ r k = ⟨fun i c=>-E i c,-W r k,fun i=>if i = r then k else β i,fr⟩:=fun h=>by
  rw [hE]; unfold pivI; simp only [if_neg h]
 clear hE
 obtain ⟨L,hL⟩ : ∃ L,L = gL m (updV (uZ N W) r (.rsl 3 2 0 (N + 1))):=⟨_,rfl⟩
 have ho:=fun tm=>Z0S (n0:=1) (tm:=tm) (m:=m) (N:=N) (r:=r) (s:=⟨W,d,β,fr⟩) hr
 have g0:=gL_at (m:=m) (i:=r) (h:=updV (uZ N W) r (.rsl 3 2 0 (N + 1))) hr
 rw [Q0g] at g0
 have hLl:=Q0n (m:=m) (h:=updV (uZ N W) r (.rsl 3 2 0 (N + 1)))
 simp only [← hL] at g0 hLl ho
 have n0:=Q0Q g0 trivial
 refine txg X0n Q3e 1 [] [0,4,22] [] rfl (by kernel_rfl) ?_
 simp -dsimp(disch:=first|exact om|fail)only[go_sem,simprocAttr,xE,xN,xC,xP,xA,xZ]
 refine ⟨_,ho _, ?_⟩
 simp -dsimp(disch:=first|exact om|fail)only[go_sem,simprocAttr,xE,xN,xC,xP,xA,xZ,g0,n0,hLl]
 obtain ⟨V0,hV⟩ : ∃ V0 : Nat → Nat → Nat → Int,V0 = fun i a=>if a < i then E a else W a:=⟨_,rfl⟩
 have hV0 : V0 0 = W:=by rw [hV]; funext a; simp
 have hVi : ∀ i,V0 i i = W i:=fun i=>by rw [hV]; simp
 have hVm : ∀ a,a < m → V0 m a = E a:=fun a ha=>by rw [hV]; simp [ha]
 have hVe : ∀ i,V0 (i + 1) i = E i:=fun i=>by rw [hV]; simp
 have hVs : ∀ i a,a ≠ i → V0 (i + 1) a = V0 i a:=fun i a h=>by
  rw [hV]; simp only
  by_cases q : a < i
  ·simp [q,show a < i + 1 by omega]
  ·simp [q,show ¬ a < i + 1 by omega]
 have hVr : ∀ v,updV (uZ N (V0 (r + 1))) r v = updV (uZ N (V0 r)) r v:=fun v=>by
  funext a
  by_cases q : a = r
  ·rw [q,Q0g,Q0g]
  ·rw [Q0G q,Q0G q]; show zrow .u N (V0 (r + 1) a) = zrow .u N (V0 r a); rw [hVs r a q]
 clear hV
 have hlrk:=hzW r k hr (by omega)
 refine loopJ (fun i : Nat=>i ≤ m) (fun i=>⟨[(0,.ref 0 0),(1,I r),(2,I k),(6,.rsl 3 2 0 (N + 1)),(7,.ref 4 0),(30,.rsl 1 1 0 m),(31,I m),(32,I i)],[topI m N 1 2 d fr,⟨.own,Q0b,gL m (updV (uZ N (V0 i)) r (.rsl 3 2 0 (N + 1)))⟩,⟨.own,T_int,iC (bL m β)⟩,zwO N (W r),zO (W r k)]⟩) (fun i=>m - i) 0 (by omega) ?_ ?_
 ·rw [hV0,← hL]
  refine StI.ren [some 0,some 1,some 2,some 3,some 4] [[],[],[],[],[]] lE (by decide) ?_ lW
  simp -dsimp(disch:=first|exact om|fail)only[go_sem,simprocAttr,xE,xN,xC,xP,xA,xZ]
  rw [hL]
  exact Q9W (f:=fun _=>.any) rfl
 intro i hi
 by_cases him : i < m
 ·by_cases hir : i = r
  ·have e : ((i : Nat) : Int) = (r : Int):=by omega
   have g1:=gL_at (m:=m) (i:=i) (h:=updV (uZ N (V0 i)) r (.rsl 3 2 0 (N + 1))) him
   rw [hir,Q0g] at g1
   have n1:=Q0Q g1 trivial
   have hl2:=Q0n (m:=m) (h:=updV (uZ N (V0 r)) r (.rsl 3 2 0 (N + 1)))
   subst hir
   simp -dsimp(disch:=first|exact om|fail)only[go_sem,simprocAttr,xE,xN,xC,xP,xA,xZ]
   refine ⟨_,StI.refl _ _, ?_⟩
   simp -dsimp(disch:=first|exact om|fail)only[go_sem,simprocAttr,xE,xN,xC,xP,xA,xZ,g1,n1,hl2]
   refine ⟨i + 1,by omega,by omega, ?_⟩
   rw [hVr]
   refine StI.ren [some 0,some 1,some 2,some 3,some 4] [[],[],[],[],[]] lE (by decide) ?_ lW
   simp -dsimp(disch:=first|exact om|fail)only[go_sem,simprocAttr,xE,xN,xC,xP,xA,xZ]
   exact Q9W (f:=fun _=>.any) rfl
  ·have e : ¬ ((i : Nat) : Int) = (r : Int):=by omega
   have ho2 : ∀ tm,StI 1 ⟨tm,[topI m N 1 2 d fr,⟨.own,Q0b,gL m (updV (uZ N (V0 i)) r (.rsl 3 2 0 (N + 1)))⟩,⟨.own,T_int,iC (bL m β)⟩,zwO N (W r),zO (W r k)]⟩ ⟨tm,[topI m N 1 2 d fr,⟨.own,Q0b,gL m (updV (updV (uZ N (V0 i)) r (.rsl 3 2 0 (N + 1))) i (.rsl 5 2 0 (N + 1)))⟩,⟨.own,T_int,iC (bL m β)⟩,zwO N (W r),zO (W r k),zwO N (W i)]⟩:=fun tm=>by
    have h:=StI.open (n0:=1) (tm:=tm) (H:=[topI m N 1 2 d fr,⟨.own,Q0b,gL m (updV (uZ N (V0 i)) r (.rsl 3 2 0 (N + 1)))⟩,⟨.own,T_int,iC (bL m β)⟩,zwO N (W r),zO (W r k)]) 1 i (ty:=Q0b) (cs:=gL m (updV (uZ N (V0 i)) r (.rsl 3 2 0 (N + 1)))) (cs0:=zC (N + 1) (W i)) (sz:=2) (n:=N + 1) rfl (by rw [Q8Y him,Q0G hir,uZ,hVi]) Q0X
    rw [X1p] at h
    exact h
   obtain ⟨L2,hL2⟩ : ∃ L2,L2 = gL m (updV (updV (uZ N (V0 i)) r (.rsl 3 2 0 (N + 1))) i (.rsl 5 2 0 (N + 1))):=⟨_,rfl⟩
   have g1:=gL_at (m:=m) (i:=i) (h:=updV (updV (uZ N (V0 i)) r (.rsl 3 2 0 (N + 1))) i (.rsl 5 2 0 (N + 1))) him
   have g2:=gL_at (m:=m) (i:=r) (h:=updV (updV (uZ N (V0 i)) r (.rsl 3 2 0 (N + 1))) i (.rsl 5 2 0 (N + 1))) hr
   rw [Q0g] at g1
   rw [Q0G (Ne.symm hir),Q0g] at g2
   have hl2:=Q0n (m:=m) (h:=updV (updV (uZ N (V0 i)) r (.rsl 3 2 0 (N + 1))) i (.rsl 5 2 0 (N + 1)))
   have hcl : ∀ (js : List (Option Nat)) (H : List Ob),js[3]? = some (some 3) → H[5]? = some (zwO N (E i)) → RnL H js true (gL m (updV (updV (uZ N (V0 i)) r (.rsl 3 2 0 (N + 1))) i (.rsl 5 2 0 (N + 1)))) (gL m (updV (uZ N (V0 (i + 1))) r (.rsl 3 2 0 (N + 1)))) [5]:=fun js H h1 h2=>X1q him (by
     rw [Q0g,Q0G hir,uZ,hVe]
     exact X4S h2) (fun a ha hai=>by
     rw [Q0G hai]
     by_cases q : a = r
     ·rw [q,Q0g,Q0g]; exact .rsl _ _ _ _ _ _ _ h1
     ·rw [Q0G q,Q0G q,show uZ N (V0 (i + 1)) a = uZ N (V0 i) a by unfold uZ; rw [hVs i a hai]]; exact .same _ _ _ trivial (fun h=>by cases h))
   have hrw : ∀ (js : List (Option Nat)) (H : List Ob),js[3]? = some (some 3) → js[5]? = some (some 5) → RnL H js true (gL m (updV (updV (uZ N (V0 i)) r (.rsl 3 2 0 (N + 1))) i (.rsl 5 2 0 (N + 1)))) (gL m (updV (updV (uZ N (V0 i)) r (.rsl 3 2 0 (N + 1))) i (.rsl 5 2 0 (N + 1)))) []:=fun js H h1 h2=>Y5c fun a ha=>by
     by_cases q2 : a = i
     ·rw [q2,Q0g]; exact .rsl _ _ _ _ _ _ _ h2
     ·rw [Q0G q2]
      by_cases q : a = r
      ·rw [q,Q0g]; exact .rsl _ _ _ _ _ _ _ h1
      ·rw [Q0G q]; exact .same _ _ _ trivial (fun h=>by cases h)
   simp only [← hL2] at ho2 g1 g2 hl2 hcl hrw
   have n1:=Q0Q g1 trivial
   have n2:=Q0Q g2 trivial
   obtain ⟨F,hF⟩ : ∃ F : Nat → Nat → Int,F = fun j a=>if a < j then E i a else W i a:=⟨_,rfl⟩
   have hF0 : F 0 = W i:=by rw [hF]; funext a; simp
   have hFc : zwO N (F (N + 1)) = zwO N (E i):=X6V fun a ha=>by rw [hF]; simp [ha]
   have hFi : ∀ j,F j j = W i j:=fun j=>by rw [hF]; simp
   have hFs : ∀ j x,x = E i j → updZ (F j) j x = F (j + 1):=fun j x e=>Y1X hF e
   clear hF
   have hlik:=hzW i k him (by omega)
   simp -dsimp(disch:=first|exact om|fail)only[go_sem,simprocAttr,xE,xN,xC,xP,xA,xZ]
   refine ⟨_,ho2 _, ?_⟩
   simp -dsimp(disch:=first|exact om|fail)only[go_sem,simprocAttr,xE,xN,xC,xP,xA,xZ,e,g1,g2,n1,n2,hl2]
   refine loopJ (fun j : Nat=>j ≤ N + 1) (fun j=>⟨[(0,.ref 0 0),(1,I r),(2,I k),(6,.rsl 3 2 0 (N + 1)),(7,.ref 4 0),(8,I i),(9,.rsl 5 2 0 (N + 1)),(10,.ref 6 0),(30,.rsl 1 1 0 m),(31,I m),(32,I i),(45,I ((N + 1 : Nat) : Int)),(46,I j)],[topI m N 1 2 d fr,⟨.own,Q0b,L2⟩,⟨.own,T_int,iC (bL m β)⟩,zwO N (W r),zO (W r k),zwO N (F j),zO (W i k)]⟩) (fun j=>N + 1 - j) 0 (by omega) ?_ ?_
   ·rw [hF0]
    refine StI.ren [some 0,some 1,some 2,some 3,some 4,some 5,some 6] [[],[],[],[],[],[],[]] lE (by decide) ?_ lW
    simp -dsimp(disch:=first|exact om|fail)only[go_sem,simprocAttr,xE,xN,xC,xP,xA,xZ]
    exact hrw _ _ rfl rfl
   intro j hj
   by_cases hjc : j < N + 1
   ·have hlij:=hzW i j him (by omega)
    have hlrj:=hzW r j hr (by omega)
    have m1 : (lim (W i j * W r k).natAbs).length ≤ 48:=by rw [Int.natAbs_mul]; have:=Q0l (a:=(W i j).natAbs) (d:=(W r k).natAbs); omega
    have m2 : (lim (W i k * W r j).natAbs).length ≤ 48:=by rw [Int.natAbs_mul]; have:=Q0l (a:=(W i k).natAbs) (d:=(W r j).natAbs); omega
    simp -dsimp(disch:=first|exact om|fail)only[go_sem,simprocAttr,xE,xN,xC,xP,xA,xZ,hFi]
    refine callP (Q0A .s .s fls fls (W i j) (W r k) (by omega) (by omega)) lL ?_
    simp -dsimp(disch:=first|exact om|fail)only[go_sem,simprocAttr,xE,xN,xC,xP,xA,xZ]
    refine callP (Q0u .s fls (W i k) (by omega)) lL ?_
    have hset:=Y1T (c:=N + 1) (g:=F j) (x:=E i j) hjc
    rw [hFs j _ rfl] at hset
    by_cases h1 : W i k = 0
    ·have h1' : sgZ (W i k) = 0:=Q1c.2 h1
     have hq:=hE2 i j hir (.inl h1)
     simp -dsimp(disch:=first|exact om|fail)only[go_sem,simprocAttr,xE,xN,xC,xP,xA,xZ,h1',hFi]
     refine callP (X7P .s .s fls fls (W i j * W r k) d hd (by omega) (by omega)) lL ?_
     rw [← hq]
     simp -dsimp(disch:=first|exact om|fail)only[go_sem,simprocAttr,xE,xN,xC,xP,xA,xZ,hset]
     refine ⟨j + 1,by omega,by omega,StI.ren [some 0,some 1,some 2,some 3,some 4,some 5,some 6] [[],[],[],[],[],[],[]] lE (by decide) ?_ lW⟩
     simp -dsimp(disch:=first|exact om|fail)only[go_sem,simprocAttr,xE,xN,xC,xP,xA,xZ]
     exact hrw _ _ rfl rfl
    ·have h1' : ¬ sgZ (W i k) = 0:=fun q=>h1 (Q1c.1 q)
     simp -dsimp(disch:=first|exact om|fail)only[go_sem,simprocAttr,xE,xN,xC,xP,xA,xZ,h1',hFi]
     refine callP (Q0u .s fls (W r j) (by omega)) lL ?_
     by_cases h2 : W r j = 0
     ·have h2' : sgZ (W r j) = 0:=Q1c.2 h2
      have hq:=hE2 i j hir (.inr h2)
      simp -dsimp(disch:=first|exact om|fail)only[go_sem,simprocAttr,xE,xN,xC,xP,xA,xZ,h2',hFi]
      refine callP (X7P .s .s fls fls (W i j * W r k) d hd (by omega) (by omega)) lL ?_
      rw [← hq]
      simp -dsimp(disch:=first|exact om|fail)only[go_sem,simprocAttr,xE,xN,xC,xP,xA,xZ,hset]
      refine ⟨j + 1,by omega,by omega,StI.ren [some 0,some 1,some 2,some 3,some 4,some 5,some 6] [[],[],[],[],[],[],[]] lE (by decide) ?_ lW⟩
      simp -dsimp(disch:=first|exact om|fail)only[go_sem,simprocAttr,xE,xN,xC,xP,xA,xZ]
      exact hrw _ _ rfl rfl
     ·have h2' : ¬ sgZ (W r j) = 0:=fun q=>h2 (Q1c.1 q)
      have hq:=hE1 i j hir h1 h2
      have m3 : (lim (W i j * W r k - W i k * W r j).natAbs).length ≤ 49:=by
       have a1:=Q0e (Int.natAbs_sub_le (W i j * W r k) (W i k * W r j))
       have a2:=X0a m1 m2
       omega
      simp -dsimp(disch:=first|exact om|fail)only[go_sem,simprocAttr,xE,xN,xC,xP,xA,xZ,h2',hFi]
      refine callP (Q0A .s .s fls fls (W i k) (W r j) (by omega) (by omega)) lL ?_
      simp -dsimp(disch:=first|exact om|fail)only[go_sem,simprocAttr,xE,xN,xC,xP,xA,xZ]
      refine callP (Q1U .s .s fls fls (W i j * W r k) (W i k * W r j) (by omega) (by omega)) lL ?_
      simp -dsimp(disch:=first|exact om|fail)only[go_sem,simprocAttr,xE,xN,xC,xP,xA,xZ]
      refine callP (X7P .s .s fls fls (W i j * W r k - W i k * W r j) d hd (by omega) (by omega)) lL ?_
      rw [← hq]
      simp -dsimp(disch:=first|exact om|fail)only[go_sem,simprocAttr,xE,xN,xC,xP,xA,xZ,hset]
      refine ⟨j + 1,by omega,by omega,StI.ren [some 0,some 1,some 2,some 3,some 4,some 5,some 6] [[],[],[],[],[],[],[]] lE (by decide) ?_ lW⟩
      simp -dsimp(disch:=first|exact om|fail)only[go_sem,simprocAttr,xE,xN,xC,xP,xA,xZ]
      exact hrw _ _ rfl rfl
   ·obtain rfl : j = N + 1:=by omega
    rw [hFc]
    simp -dsimp(disch:=first|exact om|fail)only[go_sem,simprocAttr,xE,xN,xC,xP,xA,xZ]
    refine ⟨i + 1,by omega,by omega, ?_⟩
    refine StI.ren [some 0,some 1,some 2,some 3,some 4] [[],[5],[],[],[]] lE (by decide) ?_ lW
    simp -dsimp(disch:=first|exact om|fail)only[go_sem,simprocAttr,xE,xN,xC,xP,xA,xZ]
    exact hcl _ _ rfl rfl
 ·obtain rfl : m = i:=by omega
  have g1:=gL_at (m:=m) (i:=r) (h:=updV (uZ N (V0 m)) r (.rsl 3 2 0 (N + 1))) hr
  rw [Q0g] at g1
  have n1:=Q0Q g1 trivial
  have hl2:=Q0n (m:=m) (h:=updV (uZ N (V0 m)) r (.rsl 3 2 0 (N + 1)))
  have hb:=Z0M (k:=k) (β:=β) hr
  simp -dsimp(disch:=first|exact om|fail)only[go_sem,simprocAttr,xE,xN,xC,xP,xA,xZ]
  refine callP (Q0u .s fls (W r k) (by omega)) lL ?_
  by_cases hp : 0 < W r k
  ·have hp' : 0 < sgZ (W r k):=X7n.2 hp
   rw [hp1 hp]
   simp -dsimp(disch:=first|exact om|fail)only[go_sem,simprocAttr,xE,xN,xC,xP,xA,xZ,hp',hb]
   refine RtG.ren [some 0] [[1,3,2]] lE (by decide) ?_ (.tup _ _ _ _ _ (.nil _ _))
   simp -dsimp(disch:=first|exact om|fail)only[go_sem,simprocAttr,xE,xN,xC,xP,xA,xZ]
   refine Y4n (s:=⟨E,W r k,fun i=>if i = r then k else β i,fr⟩) (t1:=Q0b) (t2:=T_int) (t3:=Q0X) hr rfl rfl ?_ (fun a ha har=>?_)
   ·simp only [hEr]; rfl
   ·show zrow .u N (V0 m a) = zrow .u N _
    rw [hVm a ha]
  ·have hp' : ¬ 0 < sgZ (W r k):=fun q=>hp (X7n.1 q)
   rw [hp2 hp]
   simp -dsimp(disch:=first|exact om|fail)only[go_sem,simprocAttr,xE,xN,xC,xP,xA,xZ,hp',hb]
   refine callP (X9L (W r k)) lL ?_
   simp -dsimp(disch:=first|exact om|fail)only[go_sem,simprocAttr,xE,xN,xC,xP,xA,xZ,hl2]
   obtain ⟨X,hX⟩ : ∃ X : Nat → Nat → Nat → Int,X = fun i a c=>if a < i then -E a c else E a c:=⟨_,rfl⟩
   have hX0 : X 0 = E:=by rw [hX]; funext a c; simp
   have hXi : ∀ i,X i i = E i:=fun i=>by rw [hX]; funext c; simp
   have hXm : ∀ a,a < m → X m a = fun c=>-E a c:=fun a ha=>by rw [hX]; funext c; simp [ha]
   have hXe : ∀ i,X (i + 1) i = fun c=>-E i c:=fun i=>by rw [hX]; funext c; simp
   have hXs : ∀ i a,a ≠ i → X (i + 1) a = X i a:=fun i a h=>by
    rw [hX]; funext c; simp only
    by_cases q : a < i
    ·simp [q,show a < i + 1 by omega]
    ·simp [q,show ¬ a < i + 1 by omega]
   clear hX
   refine loopJ (fun i : Nat=>i ≤ m) (fun i=>⟨[(0,.ref 0 0),(107,.rsl 1 1 0 m),(108,I m),(109,I i)],[topI m N 1 2 (-W r k) fr,⟨.own,Q0b,rwZ .u m N (X i)⟩,⟨.own,T_int,iC (bL m (fun i=>if i = r then k else β i))⟩]⟩) (fun i=>m - i) 0 (by omega) ?_ ?_
   ·rw [hX0]
    refine StI.ren [some 0,some 1,some 2] [[],[3],[]] lE (by decide) ?_ lW
    simp -dsimp(disch:=first|exact om|fail)only[go_sem,simprocAttr,xE,xN,xC,xP,xA,xZ]
    rw [X7o]
    exact X1q hr (by rw [Q0g,hEr]; exact X4S rfl) (fun a ha har=>by
     rw [Q0G har,uZ,hVm a ha]
     exact .same _ _ _ trivial (fun h=>by cases h))
   intro i hi
   by_cases him : i < m
   ·have ho2 : ∀ tm,StI 1 ⟨tm,[topI m N 1 2 (-W r k) fr,⟨.own,Q0b,rwZ .u m N (X i)⟩,⟨.own,T_int,iC (bL m (fun i=>if i = r then k else β i))⟩]⟩ ⟨tm,[topI m N 1 2 (-W r k) fr,⟨.own,Q0b,gL m (updV (uZ N (X i)) i (.rsl 3 2 0 (N + 1)))⟩,⟨.own,T_int,iC (bL m (fun i=>if i = r then k else β i))⟩,zwO N (E i)]⟩:=fun tm=>by
     have h:=StI.open (n0:=1) (tm:=tm) (H:=[topI m N 1 2 (-W r k) fr,⟨.own,Q0b,gL m (uZ N (X i))⟩,⟨.own,T_int,iC (bL m (fun i=>if i = r then k else β i))⟩]) 1 i (ty:=Q0b) (cs:=gL m (uZ N (X i))) (cs0:=zC (N + 1) (E i)) (sz:=2) (n:=N + 1) rfl (by rw [Q8Y him,uZ,hXi]) Q0X
     rw [X1p] at h
     exact h
    have g2:=gL_at (m:=m) (i:=i) (h:=updV (uZ N (X i)) i (.rsl 3 2 0 (N + 1))) him
    rw [Q0g] at g2
    have n2:=Q0Q g2 trivial
    have hl3:=Q0n (m:=m) (h:=updV (uZ N (X i)) i (.rsl 3 2 0 (N + 1)))
    obtain ⟨F,hF⟩ : ∃ F : Nat → Nat → Int,F = fun j a=>if a < j then (fun c=>-E i c) a else E i a:=⟨_,rfl⟩
    have hF0 : F 0 = E i:=by rw [hF]; funext a; simp
    have hFc : zwO N (F (N + 1)) = zwO N (fun c=>-E i c):=X6V fun a ha=>by rw [hF]; simp [ha]
    have hFi : ∀ j,F j j = E i j:=fun j=>by rw [hF]; simp
    have hFs : ∀ j x,x = -E i j → updZ (F j) j x = F (j + 1):=fun j x e=>Y1X (E:=fun c=>-E i c) hF e
    clear hF
    simp -dsimp(disch:=first|exact om|fail)only[go_sem,simprocAttr,xE,xN,xC,xP,xA,xZ]
    refine ⟨_,ho2 _, ?_⟩
    simp -dsimp(disch:=first|exact om|fail)only[go_sem,simprocAttr,xE,xN,xC,xP,xA,xZ,g2,n2,hl3]
    refine loopJ (fun j : Nat=>j ≤ N + 1) (fun j=>⟨[(0,.ref 0 0),(14,.rsl 3 2 0 (N + 1)),(107,.rsl 1 1 0 m),(108,I m),(109,I i),(114,I ((N + 1 : Nat) : Int)),(115,I j)],[topI m N 1 2 (-W r k) fr,⟨.own,Q0b,gL m (updV (uZ N (X i)) i (.rsl 3 2 0 (N + 1)))⟩,⟨.own,T_int,iC (bL m (fun i=>if i = r then k else β i))⟩,zwO N (F j)]⟩) (fun j=>N + 1 - j) 0 (by omega) ?_ ?_
    ·rw [hF0]
     refine StI.ren [some 0,some 1,some 2,some 3] [[],[],[],[]] lE (by decide) ?_ lW
     simp -dsimp(disch:=first|exact om|fail)only[go_sem,simprocAttr,xE,xN,xC,xP,xA,xZ]
     exact Q9W (f:=fun _=>.any) rfl
    intro j hj
    by_cases hjc : j < N + 1
    ·have hset:=Y1T (c:=N + 1) (g:=F j) (x:=-E i j) hjc
     rw [hFs j _ rfl] at hset
     simp -dsimp(disch:=first|exact om|fail)only[go_sem,simprocAttr,xE,xN,xC,xP,xA,xZ,hFi]
     refine callP (X9L (E i j)) lL ?_
     simp -dsimp(disch:=first|exact om|fail)only[go_sem,simprocAttr,xE,xN,xC,xP,xA,xZ,hset]
     refine ⟨j + 1,by omega,by omega,StI.ren [some 0,some 1,some 2,some 3] [[],[],[],[]] lE (by decide) ?_ lW⟩
     simp -dsimp(disch:=first|exact om|fail)only[go_sem,simprocAttr,xE,xN,xC,xP,xA,xZ]
     exact Q9W (f:=fun _=>.any) rfl
    ·obtain rfl : j = N + 1:=by omega
     rw [hFc]
     simp -dsimp(disch:=first|exact om|fail)only[go_sem,simprocAttr,xE,xN,xC,xP,xA,xZ]
     refine ⟨i + 1,by omega,by omega, ?_⟩
     refine StI.ren [some 0,some 1,some 2] [[],[3],[]] lE (by decide) ?_ lW
     simp -dsimp(disch:=first|exact om|fail)only[go_sem,simprocAttr,xE,xN,xC,xP,xA,xZ]
     rw [X7o]
     exact X1q him (by rw [Q0g,hXe]; exact X4S rfl) (fun a ha hai=>by
      rw [Q0G hai,uZ,hXs i a hai]
      exact .same _ _ _ trivial (fun h=>by cases h))
   ·obtain rfl : m = i:=by omega
    simp -dsimp(disch:=first|exact om|fail)only[go_sem,simprocAttr,xE,xN,xC,xP,xA,xZ]
    refine RtG.ren [some 0] [[1,2]] lE (by decide) ?_ (.tup _ _ _ _ _ (.nil _ _))
    simp -dsimp(disch:=first|exact om|fail)only[go_sem,simprocAttr,xE,xN,xC,xP,xA,xZ]
    have eX : rwZ .u m N (X m) = rwZ .u m N (fun i c=>-E i c):=by
     rw [X7o,X7o]
     exact X6S fun a ha=>by rw [hXm a ha]
    refine Y6r (s:=⟨fun i c=>-E i c,-W r k,fun i=>if i = r then k else β i,fr⟩) (t1:=Q0b) (t2:=T_int) ?_ rfl
    rw [← eX]; rfl
end Go.Proofs.YtchlpclgkhggeaaGreat