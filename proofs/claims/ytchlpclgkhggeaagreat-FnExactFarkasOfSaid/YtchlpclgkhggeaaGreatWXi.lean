/- part of the proof -/
import Derived.Test.YtchlpclgkhggeaaGreatWUf
import Derived.Test.YtchlpclgkhggeaaGreatWTh
namespace Go.Proofs.YtchlpclgkhggeaaGreat
open Go Go.RowKit
set_option maxRecDepth 100000
set_option maxHeartbeats 4000000
set_option linter.unusedVariables false
set_option linter.unusedSimpArgs false
abbrev rzO (m N : Nat) (W : Nat → Nat → Int) : Ob:=⟨.own,Q0b,rwZ .u m N W⟩
theorem Y0p {n0 : Nat} {tm : List (Nat × V)} {m N : Nat} {s : IT} : StI n0 ⟨tm,[tiO m N s]⟩ ⟨tm,[topI m N 1 2 s.d s.fr,rzO m N s.W,⟨.own,T_int,iC (bL m s.β)⟩]⟩ :=
 (StI.open (n0:=n0) (tm:=tm) (H:=[tiO m N s]) 0 0 (ty:=Q0i) (cs:=tiC .u m N s) (cs0:=rwZ .u m N s.W) (sz:=1) (n:=m) rfl rfl Q0b).trans
 (StI.open (n0:=n0) (tm:=tm) (H:=[⟨.own,Q0i,[.rsl 1 1 0 m,Bo (zb s.d),sI .s (lim s.d.natAbs),.sl .u 1 m (iC (bL m s.β)),I N,.sl .u 1 N (frC N s.fr)]⟩,rzO m N s.W]) 0 3 (ty:=Q0i) (cs:=[.rsl 1 1 0 m,Bo (zb s.d),sI .s (lim s.d.natAbs),.sl .u 1 m (iC (bL m s.β)),I N,.sl .u 1 N (frC N s.fr)]) (cs0:=iC (bL m s.β)) (sz:=1) (n:=m) rfl rfl T_int)
@[go_sem] theorem Z9w {H : List Ob} {js : List (Option Nat)} {m N : Nat} {W : Nat → Nat → Int} : RnL H js true (rwZ .u m N W) (rwZ .u m N W) [] = True:=eq_true (RnL.same (fun v hv=>by obtain ⟨l,rfl⟩:=X4R hv; trivial) (fun h=>by cases h))
theorem Y5b {m i : Nat} {h : Nat → V} (hi : i < m) : gL m h = gL i h ++ [h i] ++ gL (m - 1 - i) (fun a=>h (i + 1 + a)):=by
 obtain ⟨d,rfl⟩ : ∃ d,m = i + 1 + d:=⟨m - (i + 1),by omega⟩
 rw [show i + 1 + d - 1 - i = d by omega]
 unfold gL
 rw [List.range_add,List.map_append,List.range_succ,List.map_append,List.map_map]; rfl
theorem Z0C {m i : Nat} {h : Nat → V} (hi : i ≤ m) : gL i h ++ gL (m - i) (fun a=>h (i + 1 + a)) = gL m (fun a=>h (skp i a)):=by
 obtain ⟨d,rfl⟩ : ∃ d,m = i + d:=⟨m - i,by omega⟩
 rw [show i + d - i = d by omega]
 unfold gL
 rw [List.range_add,List.map_append,List.map_map]
 congr 1
 ·exact List.map_congr_left fun a ha=>by
   have:=List.mem_range.1 ha
   unfold skp; rw [if_pos this]
 ·exact List.map_congr_left fun a ha=>by
   show h (i + 1 + a) = h (skp i (i + a))
   unfold skp; rw [if_neg (by omega)]; congr 1; omega
theorem bI_gL {m : Nat} {β : Nat → Nat} : iC (bL m β) = gL m (fun a=>I ((β a : Nat) : Int)):=by
 unfold iC bL gL
 rw [List.map_map]; rfl
def Q2D : List (Nat × (List Nat × List Nat × List Nat)):=[(10,[0,1,2,3,4,5,6,7,8,9,10,11,12,13,14,15,16,17],[],[999999]),(11,[0,1,2,3,4,5,6,7,8,9,10,11,12,13,14,15,16,17],[],[999999])]
theorem Q9w : Txt PP Q1K Tryz.f92 Q3l Q2D:=⟨Q9b,Tryz.func92,rfl,by kernel_rfl,by kernel_rfl⟩
attribute [go_sem] Q2D
theorem Z1D {p : Prg} {r c : Nat} (hp : PD p r c) (s : IT) {t : Tb} (hs : CI p r c 0 r s t) :
  GC PP Q1K [.ref 0 0,I c] [tiO r (c + r) s] (V.one []) [tiO (lvv c r 0 r s).1 (c + r) (lvv c r 0 r s).2]:=by
 have h20:=hp.r20
 have h40:=hp.c40
 obtain ⟨N,hN⟩ : ∃ N,N = c + r:=⟨_,rfl⟩
 have hN60 : N ≤ 60:=by omega
 have hcN : c ≤ N:=by omega
 rw [← hN]
 have hpiv:=fun (m : Nat) (hm : m ≤ 20) (z : IT) (hz : ROk m N z) (i k : Nat) (hi : i < m) (hk : k < N)=>X9D m N hm hN60 z hz.sz hz.d (fun i hi=>by have:=hz.b i hi; omega) i k hi hk
 have hok : ∀ {i m : Nat} {z : IT} {u : Tb},CI p r c i m z u → ROk m N z:=fun h=>by rw [hN]; exact h.ir.ok (by rw [hp.m]; exact h20)
 refine txg Q9w Q3f 1 [] [4,8] [8,10,11] rfl (by kernel_rfl) ?_
 simp -dsimp(disch:=first|exact om|fail)only[go_sem,simprocAttr,xE,xN,xC,xP,xA,xZ]
 refine loopJ (fun y : Nat × Nat × IT=>(∃ u,CI p r c y.1 y.2.1 y.2.2 u) ∧ y.1 ≤ y.2.1 ∧ lvv c (y.2.1 - y.1) y.1 y.2.1 y.2.2 = lvv c r 0 r s) (fun y=>⟨[(0,.ref 0 0),(1,I c),(4,I y.1)],[topI y.2.1 N 1 2 y.2.2.d y.2.2.fr,rzO y.2.1 N y.2.2.W,⟨.own,T_int,iC (bL y.2.1 y.2.2.β)⟩]⟩) (fun y=>y.2.1 - y.1) (0,r,s) ⟨⟨_,hs⟩,Nat.zero_le _,rfl⟩ ?_ ?_
 ·refine StI.trans Y0p ?_
  exact StI.ren [some 0,some 1,some 2] [[],[],[]] lE (by decide) lW lW
 rintro ⟨i,m,z⟩ ⟨⟨u,hu⟩,him,hlv⟩
 simp only at hu him hlv ⊢
 have hmr:=hu.mr
 have hokz:=hok hu
 by_cases hi : i < m
 ·have hsk:=fun h=>CI.skip (i:=i) hu h
  have hpv:=fun h1 h2=>CI.piv hp hu hi h1 h2
  obtain ⟨f,hf⟩ : ∃ f,m - i = f + 1:=⟨m - i - 1,by omega⟩
  have hrec : lvv c (f + 1) i m z = if z.β i < c then lvv c f (i + 1) m z else if nzI z i c < c then lvv c f (i + 1) m (pivI z i (nzI z i c)) else lvv c f i (m - 1) (delI z i):=rfl
  rw [hf,hrec] at hlv
  clear hrec
  by_cases hb : z.β i < c
  ·have hb' : (z.β i : Int) < (c : Int):=by omega
   rw [if_pos hb] at hlv
   simp -dsimp(disch:=first|exact om|fail)only[go_sem,simprocAttr,xE,xN,xC,xP,xA,xZ,hb']
   refine ⟨(i + 1,m,z),⟨⟨u,hsk hb⟩,by show i + 1 ≤ m; omega,by show lvv c (m - (i + 1)) (i + 1) m z = _; rw [show m - (i + 1) = f by omega]; exact hlv⟩,by show m - (i + 1) < m - i; omega, ?_⟩
   exact StI.ren [some 0,some 1,some 2] [[],[],[]] lE (by decide) lW lW
  ·have hb' : ¬ (z.β i : Int) < (c : Int):=by omega
   rw [if_neg hb] at hlv
   simp -dsimp(disch:=first|exact om|fail)only[go_sem,simprocAttr,xE,xN,xC,xP,xA,xZ,hb']
   obtain ⟨f1,f2,f3⟩:=Q0J (P:=fun j=>decide (z.W i j ≠ 0)) (n:=c)
   have hnz : nzI z i c = fstN (fun j=>decide (z.W i j ≠ 0)) c:=rfl
   rw [← hnz] at f1 f2 f3
   clear hnz
   have hdel:=fun (h1 : m - 1 + 1 = m) h2=>CI.del (m:=m - 1) hp (by rw [h1]; exact hu) (by omega) hb h2
   have hpv:=hpv hb
   generalize nzI z i c = k at *
   have ho2 : ∀ tm,StI 1 ⟨tm,[topI m N 1 2 z.d z.fr,rzO m N z.W,⟨.own,T_int,iC (bL m z.β)⟩]⟩ ⟨tm,[topI m N 1 2 z.d z.fr,⟨.own,Q0b,gL m (updV (uZ N z.W) i (.rsl 3 2 0 (N + 1)))⟩,⟨.own,T_int,iC (bL m z.β)⟩,zwO N (z.W i)]⟩:=fun tm=>by
    have h:=StI.open (n0:=1) (tm:=tm) (H:=[topI m N 1 2 z.d z.fr,⟨.own,Q0b,gL m (uZ N z.W)⟩,⟨.own,T_int,iC (bL m z.β)⟩]) 1 i (ty:=Q0b) (cs:=gL m (uZ N z.W)) (cs0:=zC (N + 1) (z.W i)) (sz:=2) (n:=N + 1) rfl (by rw [Q8Y hi]) Q0X
    rw [X1p] at h
    exact h
   have g1:=gL_at (m:=m) (i:=i) (h:=updV (uZ N z.W) i (.rsl 3 2 0 (N + 1))) hi
   rw [Q0g] at g1
   have n1:=Q0Q g1 trivial
   have hl2:=Q0n (m:=m) (h:=updV (uZ N z.W) i (.rsl 3 2 0 (N + 1)))
   refine ⟨_,ho2 _, ?_⟩
   simp -dsimp(disch:=first|exact om|fail)only[go_sem,simprocAttr,xE,xN,xC,xP,xA,xZ]
   refine loopJ (fun j : Nat=>j ≤ k) (fun j=>⟨[(0,.ref 0 0),(1,I c),(4,I i),(5,I j)],[topI m N 1 2 z.d z.fr,⟨.own,Q0b,gL m (updV (uZ N z.W) i (.rsl 3 2 0 (N + 1)))⟩,⟨.own,T_int,iC (bL m z.β)⟩,zwO N (z.W i)]⟩) (fun j=>k - j) 0 (by omega) ?_ ?_
   ·refine StI.ren [some 0,some 1,some 2,some 3] [[],[],[],[]] lE (by decide) ?_ lW
    simp -dsimp(disch:=first|exact om|fail)only[go_sem,simprocAttr,xE,xN,xC,xP,xA,xZ]
    exact Q9W (f:=fun _=>.any) rfl
   intro j hj
   by_cases hjk : j < k
   ·have hz0 : z.W i j = 0:=by have:=f2 j hjk; simpa using this
    have hs0 : sgZ (z.W i j) = 0:=Q1c.2 hz0
    have hsz:=hokz.sz.W i j hi (by omega)
    simp -dsimp(disch:=first|exact om|fail)only[go_sem,simprocAttr,xE,xN,xC,xP,xA,xZ,g1,n1,hl2]
    refine callP (Q0u .s fls (z.W i j) (by omega)) lL ?_
    simp -dsimp(disch:=first|exact om|fail)only[go_sem,simprocAttr,xE,xN,xC,xP,xA,xZ,hs0]
    refine ⟨j + 1,by omega,by omega, ?_⟩
    refine StI.ren [some 0,some 1,some 2,some 3] [[],[],[],[]] lE (by decide) ?_ lW
    simp -dsimp(disch:=first|exact om|fail)only[go_sem,simprocAttr,xE,xN,xC,xP,xA,xZ]
    exact Q9W (f:=fun _=>.any) rfl
   ·obtain rfl : j = k:=by omega
    by_cases hjc : j < c
    ·have hz0 : z.W i j ≠ 0:=of_decide_eq_true (f3 hjc)
     have hs0 : ¬ sgZ (z.W i j) = 0:=fun q=>hz0 (Q1c.1 q)
     have hsz:=hokz.sz.W i j hi (by omega)
     rw [if_pos hjc] at hlv
     simp -dsimp(disch:=first|exact om|fail)only[go_sem,simprocAttr,xE,xN,xC,xP,xA,xZ,g1,n1,hl2]
     refine callP (Q0u .s fls (z.W i j) (by omega)) lL ?_
     simp -dsimp(disch:=first|exact om|fail)only[go_sem,simprocAttr,xE,xN,xC,xP,xA,xZ,hs0]
     refine ⟨⟨[(0,.ref 0 0),(1,I c),(4,I i),(5,I j)],[tiO m N z]⟩, ?_, ?_⟩
     ·refine StI.ren [some 0] [[1,3,2]] lE (by decide) ?_ lW
      simp -dsimp(disch:=first|exact om|fail)only[go_sem,simprocAttr,xE,xN,xC,xP,xA,xZ]
      exact Y4n hi rfl rfl rfl (fun _ _ _=>rfl)
     simp -dsimp(disch:=first|exact om|fail)only[go_sem,simprocAttr,xE,xN,xC,xP,xA,xZ]
     refine callG' [0] (hpiv m (by omega) z hokz i j hi (by omega)) (by decide) lL lL lE lF ?_
     simp -dsimp(disch:=first|exact om|fail)only[go_sem,simprocAttr,xE,xN,xC,xP,xA,xZ]
     refine ⟨(i + 1,m,pivI z i j),⟨⟨_,(hpv hjc).2⟩,by show i + 1 ≤ m; omega,by show lvv c (m - (i + 1)) (i + 1) m (pivI z i j) = _; rw [show m - (i + 1) = f by omega]; exact hlv⟩,by show m - (i + 1) < m - i; omega, ?_⟩
     refine StI.trans (?_ : StI 1 _ ⟨[(0,.ref 0 0),(1,I c),(4,I ((i + 1 : Nat) : Int))],[tiO m N (pivI z i j)]⟩) (StI.trans Y0p ?_)
     ·exact StI.ren [some 0] [[]] lE (by decide) lW lW
     ·exact StI.ren [some 0,some 1,some 2] [[],[],[]] lE (by decide) lW lW
    ·have hjc2 : j = c:=by omega
     rw [if_neg hjc] at hlv
     have hdel:=hdel (by omega) hjc
     have e1 : ((i : Int) + 1).toNat = i + 1:=by omega
     have e2 : ((i : Nat) : Int).toNat = i:=by omega
     have hdW : ∀ a,(delI z i).W a = z.W (skp i a):=fun a=>rfl
     have hsp:=Y5b (m:=m) (h:=updV (uZ N z.W) i (.rsl 3 2 0 (N + 1))) hi
     have hsb : iC (bL m z.β) = iC (bL i z.β) ++ [I ((z.β i : Nat) : Int)] ++ iC (bL (m - 1 - i) (fun a=>z.β (i + 1 + a))):=by
      rw [bI_gL,bI_gL,bI_gL]; exact Y5b hi
     have hdl : gL i (updV (uZ N z.W) i (.rsl 3 2 0 (N + 1))) ++ gL (m - 1 - i) (fun a=>updV (uZ N z.W) i (.rsl 3 2 0 (N + 1)) (i + 1 + a)) = rwZ .u (m - 1) N (delI z i).W:=by
      rw [Z0C (m:=m - 1) (by omega),X7o]
      exact X6S fun a _=>by
       show updV (uZ N z.W) i (.rsl 3 2 0 (N + 1)) (skp i a) = _
       rw [Q0G (by unfold skp; split <;> omega)]; rfl
     have hdb : iC (bL i z.β) ++ iC (bL (m - 1 - i) (fun a=>z.β (i + 1 + a))) = iC (bL (m - 1) (delI z i).β):=by
      rw [bI_gL,bI_gL,bI_gL]; exact Z0C (m:=m - 1) (by omega)
     have hBm : i + (m - 1 - i) = m - 1:=by omega
     have e3 : m - (i + 1) = m - 1 - i:=by omega
     have hcl : ∀ v ∈ gL (m - 1 - i) (fun a=>updV (uZ N z.W) i (.rsl 3 2 0 (N + 1)) (i + 1 + a)),v.cell:=fun v hv=>by
      obtain ⟨a,_,rfl⟩:=Z0B hv
      show V.cell (updV _ _ _ _)
      rw [Q0G (by omega)]; trivial
     have hcb : ∀ v ∈ iC (bL (m - 1 - i) (fun a=>z.β (i + 1 + a))),v.cell:=fun v hv=>by
      rw [bI_gL] at hv
      obtain ⟨a,_,rfl⟩:=Z0B hv
      trivial
     generalize hB1 : gL (m - 1 - i) (fun a=>updV (uZ N z.W) i (.rsl 3 2 0 (N + 1)) (i + 1 + a)) = B1 at *
     generalize hB2 : iC (bL (m - 1 - i) (fun a=>z.β (i + 1 + a))) = B2 at *
     have hB1l : B1.length = (m - 1 - i) * 1:=by rw [← hB1,Q0n]; omega
     have hB2l : B2.length = (m - 1 - i) * 1:=by rw [← hB2,bI_gL,Q0n]; omega
     by_cases hlast : i + 1 < m
     ·have hlast' : ((i : Int) + 1).toNat < m:=by omega
      simp -dsimp(disch:=first|exact om|fail)only[go_sem,simprocAttr,xE,xN,xC,xP,xA,xZ,g1,n1,hl2,hlast']
      refine .inl ?_
      refine mtDel 1 i (m - 1 - i) (by kernel_rfl : tsl PP Q4D = some (Q0b,1)) (by decide) lW (.inr (by simp -dsimp(disch:=first|exact om|fail)only[go_sem,simprocAttr,xE,xN,xC,xP,xA,xZ,e1,e3])) rfl rfl hsp (by rw [Q0n]; omega) rfl hB1l hcl lW ?_
      rw [hdl,hBm]
      simp -dsimp(disch:=first|exact om|fail)only[go_sem,simprocAttr,xE,xN,xC,xP,xA,xZ,hlast']
      refine .inl ?_
      refine mtDel 2 i (m - 1 - i) (by kernel_rfl : tsl PP Q1F = some (T_int,1)) (by decide) lW (.inr (by simp -dsimp(disch:=first|exact om|fail)only[go_sem,simprocAttr,xE,xN,xC,xP,xA,xZ,e1,e3])) rfl rfl hsb (by rw [bI_gL,Q0n]; omega) rfl hB2l hcb lW ?_
      rw [hdb,hBm]
      simp -dsimp(disch:=first|exact om|fail)only[go_sem,simprocAttr,xE,xN,xC,xP,xA,xZ]
      refine ⟨(i,m - 1,delI z i),⟨⟨_,hdel⟩,by show i ≤ m - 1; omega,by show lvv c (m - 1 - i) i (m - 1) (delI z i) = _; rw [show m - 1 - i = f by omega]; exact hlv⟩,by show m - 1 - i < m - i; omega, ?_⟩
      refine StI.ren [some 0,some 1,some 2] [[],[],[]] lE (by decide) ?_ lW
      simp -dsimp(disch:=first|exact om|fail)only[go_sem,simprocAttr,xE,xN,xC,xP,xA,xZ]
      exact ⟨rfl,⟨rfl,rfl⟩,rfl⟩
     ·have hlast' : ¬ ((i : Int) + 1).toNat < m:=by omega
      simp -dsimp(disch:=first|exact om|fail)only[go_sem,simprocAttr,xE,xN,xC,xP,xA,xZ,g1,n1,hl2,hlast']
      refine .inr ⟨by omega, ?_⟩
      refine mtDel 1 i (m - 1 - i) (by kernel_rfl : tsl PP Q4D = some (Q0b,1)) (by decide) lW (.inl ⟨by omega,by simp -dsimp(disch:=first|exact om|fail)only[go_sem,simprocAttr,xE,xN,xC,xP,xA,xZ]⟩) rfl rfl hsp (by rw [Q0n]; omega) rfl hB1l hcl lW ?_
      rw [hdl,hBm]
      simp -dsimp(disch:=first|exact om|fail)only[go_sem,simprocAttr,xE,xN,xC,xP,xA,xZ,hlast']
      refine .inr ⟨by omega, ?_⟩
      refine mtDel 2 i (m - 1 - i) (by kernel_rfl : tsl PP Q1F = some (T_int,1)) (by decide) lW (.inl ⟨by omega,by simp -dsimp(disch:=first|exact om|fail)only[go_sem,simprocAttr,xE,xN,xC,xP,xA,xZ]⟩) rfl rfl hsb (by rw [bI_gL,Q0n]; omega) rfl hB2l hcb lW ?_
      rw [hdb,hBm]
      simp -dsimp(disch:=first|exact om|fail)only[go_sem,simprocAttr,xE,xN,xC,xP,xA,xZ]
      refine ⟨(i,m - 1,delI z i),⟨⟨_,hdel⟩,by show i ≤ m - 1; omega,by show lvv c (m - 1 - i) i (m - 1) (delI z i) = _; rw [show m - 1 - i = f by omega]; exact hlv⟩,by show m - 1 - i < m - i; omega, ?_⟩
      refine StI.ren [some 0,some 1,some 2] [[],[],[]] lE (by decide) ?_ lW
      simp -dsimp(disch:=first|exact om|fail)only[go_sem,simprocAttr,xE,xN,xC,xP,xA,xZ]
      exact ⟨rfl,⟨rfl,rfl⟩,rfl⟩
 ·obtain rfl : i = m:=by omega
  rw [Nat.sub_self] at hlv
  rw [← show ((i,z) : Nat × IT) = lvv c r 0 r s from hlv]
  simp -dsimp(disch:=first|exact om|fail)only[go_sem,simprocAttr,xE,xN,xC,xP,xA,xZ]
  refine RtG.ren [some 0] [[1,2]] lE (by decide) ?_ (.tup _ _ _ _ _ (.nil _ _))
  simp -dsimp(disch:=first|exact om|fail)only[go_sem,simprocAttr,xE,xN,xC,xP,xA,xZ]
  exact Y6r rfl rfl
theorem row_b (f : Fl) (hf : f ≠ .u) (p : Prg) (i : Nat) (ho : okP' p = true) (hi : (i : Int) < p.rows) : PB PP Q1w [.ptr .b (pC f p),I i] (sI .b (rowI p i)) []:=by
 obtain ⟨c,hc,h40,h1,h2,hl,e⟩:=Q4d ho hi
 obtain ⟨⟨r1,r2⟩,_⟩:=Q0F ho
 have e1 : (i : Int) * (c : Int) = ((i * c : Nat) : Int):=by rw [Int.natCast_mul]
 have e2 : ((i : Int) + 1) * (c : Int) = ((i * c + c : Nat) : Int):=by rw [Int.add_mul,Int.one_mul,e1]; omega
 have e3 : (i * c + c) - i * c = c:=by omega
 refine txb Q2z Q1m [] [] [] (by kernel_rfl) ?_
 simp -dsimp(disch:=first|exact om|fail)only[go_sem,simprocAttr,xE,xN,xC,xP,xA,xZ,pC,hc,e1,e2]
 rw [e3,Z0y,← e]
 rw [show sI .b (rowI p i) = .sl .b 1 c (iC (rowI p i)) by show V.sl .b 1 (rowI p i).length _ = _; rw [hl]]
 exact RtB.nothing [] (by decide) trivial (Rn.lent hf)
end Go.Proofs.YtchlpclgkhggeaaGreat