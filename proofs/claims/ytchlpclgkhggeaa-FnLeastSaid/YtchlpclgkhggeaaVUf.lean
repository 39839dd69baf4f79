/- part of the proof -/
import Derived.Test.YtchlpclgkhggeaaVUd
import Derived.Test.YtchlpclgkhggeaaVUe
namespace Go.Proofs.Ytchlpclgkhggeaa
open Go Go.RowKit
set_option maxRecDepth 100000
set_option maxHeartbeats 4000000
set_option linter.unusedVariables false
set_option linter.unusedSimpArgs false
@[go_sem] theorem le_uZ {H : List Ob} {m N : Nat} {W : Nat → Nat → Int} : Le H .b (.sl .u 1 m (rwZ .u m N W)) (.sl .b 1 m (rwZ .b m N W)) = True:=eq_true (.sl _ _ _ _ _ _ (show FlLe .b .u .b from rfl) (by
 unfold rwZ
 generalize List.range m = L
 induction L with
 | nil=>exact .nil
 | cons a L ih=>exact .cons _ _ _ _ (.sl _ _ _ _ _ _ (show FlLe .b .u .b from rfl) X9k) ih))
theorem X3O {H : List Ob} {f : Fl} {N : Nat} {fr : Nat → Bool} : LeL H f (frC N fr) (frC N fr):=by
 unfold frC
 generalize List.range N = L
 induction L with
 | nil=>exact .nil
 | cons a L ih=>exact .cons _ _ _ _ (.lit _) ih
@[go_sem] theorem le_uF {H : List Ob} {N : Nat} {fr : Nat → Bool} : Le H .b (.sl .u 1 N (frC N fr)) (.sl .b 1 N (frC N fr)) = True:=eq_true (.sl _ _ _ _ _ _ (show FlLe .b .u .b from rfl) X3O)
@[go_sem] theorem Y8H {H : List Ob} {id N : Nat} {fr : Nat → Bool} (h : ownAt H[id]? (frC N fr)) : Le H .b (.rsl id 1 0 N) (.sl .b 1 N (frC N fr)) = True:=by
 obtain ⟨ty,h⟩:=h
 refine eq_true (Le.rsl (H:=H) (f:=.b) id 1 0 N ⟨.own,ty,frC N fr⟩ (frC N fr) h (.inl rfl) (by simp [Q4w]) ?_)
 simp only [Nat.zero_mul,List.drop_zero]
 rw [List.take_of_length_le (by simp [Q4w])]
 exact X3O
@[go_sem] theorem Z0H {N k : Nat} {fr : Nat → Bool} (h : OM (k < N)) : (∀ c ∈ ((frC N fr).drop k).take 1,c.nu) = True:=Q1J (Y0z h) trivial
abbrev frO (N : Nat) (fr : Nat → Bool) : Ob:=⟨.own,X0G,frC N fr⟩
abbrev topF (m N a b : Nat) (s : IT) : Ob:=⟨.own,Q0c,[.sl .u 1 m (rwZ .u m N s.W),Bo (zb s.d),sI .s (lim s.d.natAbs),.rsl b 1 0 m,I N,.rsl a 1 0 N]⟩
theorem X5O {n0 : Nat} {tm : List (Nat × V)} {m N : Nat} {s : IT} : StI n0 ⟨tm,[tiO m N s]⟩ ⟨tm,[topF m N 1 2 s,frO N s.fr,⟨.own,T_int,iC (bL m s.β)⟩]⟩ :=
 (StI.open (n0:=n0) (tm:=tm) (H:=[tiO m N s]) 0 5 (ty:=Q0c) (cs:=tiC .u m N s) (cs0:=frC N s.fr) (sz:=1) (n:=N) rfl rfl X0G).trans
 (StI.open (n0:=n0) (tm:=tm) (H:=[⟨.own,Q0c,[.sl .u 1 m (rwZ .u m N s.W),Bo (zb s.d),sI .s (lim s.d.natAbs),.sl .u 1 m (iC (bL m s.β)),I N,.rsl 1 1 0 N]⟩,frO N s.fr]) 0 3 (ty:=Q0c) (cs:=[.sl .u 1 m (rwZ .u m N s.W),Bo (zb s.d),sI .s (lim s.d.natAbs),.sl .u 1 m (iC (bL m s.β)),I N,.rsl 1 1 0 N]) (cs0:=iC (bL m s.β)) (sz:=1) (n:=m) rfl rfl T_int)
theorem rn_fr {H : List Ob} {js : List (Option Nat)} {bk : Bool} {k N : Nat} {ty : TypeId} {fr : Nat → Bool} (h : H[k]? = some ⟨.own,ty,frC N fr⟩) : Rn H js bk (.rsl k 1 0 N) (.sl .u 1 N (frC N fr)) [k]:=by
 have e : (frC N fr).take (N * 1) = frC N fr:=List.take_of_length_le (by rw [Q4w]; omega)
 refine Rn.cl js bk k 1 N ⟨.own,ty,frC N fr⟩ (frC N fr) [] h rfl (by show N * 1 ≤ _; rw [Q4w]; omega) ?_
 rw [e]
 exact RnL.same (fun v hv=>by obtain ⟨b,rfl⟩:=X3Q hv; trivial) (fun _ v hv=>by obtain ⟨b,rfl⟩:=X3Q hv; trivial)
theorem Q5s {H : List Ob} {js : List (Option Nat)} {bk : Bool} {m N a b : Nat} {s : IT} {fr : Nat → Bool} {t1 t2 : TypeId} (h1 : H[a]? = some ⟨.own,t1,frC N fr⟩) (h2 : H[b]? = some ⟨.own,t2,iC (bL m s.β)⟩) :
  RnL H js bk [.sl .u 1 m (rwZ .u m N s.W),Bo (zb s.d),sI .s (lim s.d.natAbs),.rsl b 1 0 m,I N,.rsl a 1 0 N] [.sl .u 1 m (rwZ .u m N s.W),Bo (zb s.d),sI .s (lim s.d.natAbs),.sl .u 1 m (iC (bL m s.β)),I N,.sl .u 1 N (frC N fr)] [b,a]:=by
 refine .cons _ _ _ _ _ _ [] [b,a] (.same _ _ _ trivial (fun _=>trivial)) (.cons _ _ _ _ _ _ [] [b,a] (.same _ _ _ trivial (fun _=>trivial)) (.cons _ _ _ _ _ _ [] [b,a] (.same _ _ _ trivial (fun _=>trivial)) (.cons _ _ _ _ _ _ [b] [a] (X4y h2) (.cons _ _ _ _ _ _ [] [a] (.same _ _ _ trivial (fun _=>trivial)) (.cons _ _ _ _ _ _ [a] [] (rn_fr h1) (.nil _ _))))))
theorem X7h {N k : Nat} {fr : Nat → Bool} {b : Bool} (h : k < N) : (frC N fr).take k ++ [Bo b] ++ (frC N fr).drop (k + 1) = frC N (fun a=>if a = k then b else fr a):=by
 rw [X6b (show OM (k < (frC N fr).length) by rw [Q4w]; exact h)]
 show (gL N (fun k=>Bo (fr k))).set k (Bo b) = gL N (fun a=>Bo (if a = k then b else fr a))
 rw [X1r]
 refine Q9F fun a _=>?_
 unfold updV
 split <;> rfl
structure ROk (m N : Nat) (s : IT) : Prop where
 sz : ISz m N s
 d : s.d ≠ 0
 b : ∀ i,i < m → s.β i < N
theorem IR.ok {p : LP} {m N : Nat} {s : IT} {t : Tb} (h : IR p m N s t) (hm : p.m ≤ 20) : ROk m N s :=
 ⟨⟨(h.size hm).1,(h.size hm).2⟩,by have:=h.dp; omega,fun i hi=>by rw [h.beta i hi]; exact h.tab.bl i hi⟩
theorem Q8J (m N : Nat) (hm : m ≤ 20) (hN : N ≤ 60) (s : IT) (o : Nat → Int) (ho : ∀ j,-100 ≤ o j ∧ o j ≤ 100) (K : Nat) (h1 : stopI m N o (itI m N o s K) = true) (h2 : ∀ n,n < K → stopI m N o (itI m N o s n) = false)
  (hok : ∀ n,n ≤ K → ROk m N (itI m N o s n)) :
  GC PP Q0i [.ref 0 0,.sl .b 1 N (iC (oL N o))] [tiO m N s] (Bo (decide (entI (itI m N o s K) m N o = N))) [tiO m N (if entI (itI m N o s K) m N o = N then resI (itI m N o s K) m o else itI m N o s K)]:=by
 refine txg Q4R Q1B 1 [] [7,8,17] [11] rfl (by kernel_rfl) ?_
 simp -dsimp(disch:=first|exact om|fail)only[go_sem,simprocAttr,xE,xN,xC,xP,xA,xZ]
 refine loopJ (fun y : Nat × Bool=>(y.2 = true ∧ y.1 ≤ K) ∨ (y.2 = false ∧ y.1 = K ∧ entI (itI m N o s K) m N o = N)) (fun y=>⟨[(0,.ref 0 0),(1,.sl .b 1 N (iC (oL N o))),(5,Bo y.2)],[tiO m N (itI m N o s y.1)]⟩) (fun y=>2 * (K - y.1) + if y.2 = true then 1 else 0) (0,true) (.inl ⟨rfl,Nat.zero_le _⟩) ?_ ?_
 ·rw [show itI m N o s (0,true).1 = s from rfl]
  exact StI.ren [some 0] [[]] lE (by decide) lW lW
 rintro ⟨n,ag⟩ hy
 simp only at hy ⊢
 rcases hy with ⟨rfl,hn⟩ | ⟨rfl,rfl,he⟩
 ·have hokn:=hok n hn
  have hs1 : itI m N o s (n + 1) = nxtI m N o (itI m N o s n):=rfl
  have h2n:=h2 n
  have hend : stopI m N o (itI m N o s n) = true → n = K:=fun e=>by
   rcases Nat.lt_or_eq_of_le hn with h | h
   ·rw [h2n h] at e; cases e
   ·exact h
  have hstop : stopI m N o (itI m N o s n) = (decide (entI (itI m N o s n) m N o = N) || (lvI (itI m N o s n) N (entI (itI m N o s n) m N o) m).isNone):=rfl
  have hres : n = K → itI m N o s n = itI m N o s K:=fun e=>by rw [e]
  generalize itI m N o s K = z at *
  generalize hu : itI m N o s n = u at *
  have hpe : entI u m N o = fstN (fun k=>u.fr k && !(basB u.β m k) && decide (0 < gnI u m o k)) N:=rfl
  have hle : entI u m N o ≤ N:=by rw [hpe]; exact Q1h.1
  obtain ⟨f1,f2,f3⟩:=Q1h (P:=fun k=>u.fr k && !(basB u.β m k) && decide (0 < gnI u m o k)) (n:=N)
  rw [← hpe] at f1 f2 f3
  clear hpe
  have hnx : nxtI m N o u = pivI u ((lvI u N (entI u m N o) m).getD 0) (entI u m N o):=rfl
  generalize hk : entI u m N o = k at *
  simp -dsimp(disch:=first|exact om|fail)only[go_sem,simprocAttr,xE,xN,xC,xP,xA,xZ]
  refine loopJ (fun j : Nat=>j ≤ k) (fun j=>⟨[(0,.ref 0 0),(1,.sl .b 1 N (iC (oL N o))),(5,Bo false),(13,I N),(14,I j)],[tiO m N u]⟩) (fun j=>N - j) 0 (by omega) ?_ ?_
  ·exact StI.ren [some 0] [[]] lE (by decide) lW lW
  intro j hjk
  by_cases hjN : j < N
  ·have hc:=X1A .b flb m u.β hm (fun i hi=>by have:=hokn.b i hi; omega) j (by omega)
   have hg:=X9o m N hm hN u hokn.sz hokn.b o ho j hjN
   have hskip : (u.fr j && !(basB u.β m j) && decide (0 < gnI u m o j)) = false → j + 1 ≤ k:=fun e=>by
    rcases Nat.lt_or_eq_of_le hjk with h | h
    ·exact h
    ·have:=f3 (by omega)
     rw [← h,e] at this; cases this
   simp -dsimp(disch:=first|exact om|fail)only[go_sem,simprocAttr,xE,xN,xC,xP,xA,xZ]
   refine ⟨_,X5O, ?_⟩
   cases hfr : u.fr j
   ·have hsk:=hskip (by rw [hfr]; rfl)
    simp -dsimp(disch:=first|exact om|fail)only[go_sem,simprocAttr,xE,xN,xC,xP,xA,xZ,hfr]
    refine ⟨j + 1,by omega,by omega, ?_⟩
    refine StI.ren [some 0] [[2,1]] lE (by decide) ?_ lW
    simp -dsimp(disch:=first|exact om|fail)only[go_sem,simprocAttr,xE,xN,xC,xP,xA,xZ]
    exact Q5s (s:=u) rfl rfl
   ·simp -dsimp(disch:=first|exact om|fail)only[go_sem,simprocAttr,xE,xN,xC,xP,xA,xZ,hfr]
    refine callP hc lL ?_
    cases hbs : basB u.β m j
    ·simp -dsimp(disch:=first|exact om|fail)only[go_sem,simprocAttr,xE,xN,xC,xP,xA,xZ]
     refine callP hg lL ?_
     by_cases hp : 0 < gnI u m o j
     ·have hp' : ¬ sgZ (gnI u m o j) ≤ 0:=fun q=>by have:=Q6o.1 q; omega
      have hP : (u.fr j && !(basB u.β m j) && decide (0 < gnI u m o j)) = true:=by rw [hfr,hbs,decide_eq_true hp]; rfl
      have hjk2 : j = k:=by
       rcases Nat.lt_or_eq_of_le hjk with h | h
       ·have:=f2 j h
        rw [hP] at this; cases this
       ·exact h
      subst hjk2
      simp -dsimp(disch:=first|exact om|fail)only[go_sem,simprocAttr,xE,xN,xC,xP,xA,xZ,hp']
      refine ⟨⟨[(0,.ref 0 0),(1,.sl .b 1 N (iC (oL N o))),(5,Bo false),(6,I j),(13,I N),(14,I j)],[tiO m N u]⟩, ?_, ?_⟩
      ·refine StI.ren [some 0] [[2,1]] lE (by decide) ?_ lW
       simp -dsimp(disch:=first|exact om|fail)only[go_sem,simprocAttr,xE,xN,xC,xP,xA,xZ]
       exact Q5s (s:=u) rfl rfl
      simp -dsimp(disch:=first|exact om|fail)only[go_sem,simprocAttr,xE,xN,xC,xP,xA,xZ]
      refine callP (X6T m N hm hN u hokn.sz (fun i hi=>by have:=hokn.b i hi; omega) j hjN) lL ?_
      cases hl : lvI u N j m with
      | none =>
       have hzz : u = z:=hres (hend (by rw [hstop,hl]; simp))
       rw [← hzz,hk,show decide (j = N) = false from decide_eq_false (by omega),if_neg (show ¬ j = N by omega),show lvB none = -1 from rfl]
       simp -dsimp(disch:=first|exact om|fail)only[go_sem,simprocAttr,xE,xN,xC,xP,xA,xZ]
       exact RtG.nothing [some 0] lE (by decide) lW lW
      | some r =>
       have hr:=X4I hl
       have hr0 : ¬ (r : Int) < 0:=by omega
       have hnK : n < K:=by
        rcases Nat.lt_or_eq_of_le hn with h | h
        ·exact h
        ·rw [← hres h,hstop,hl] at h1
         simp only [Option.isNone_some,Bool.or_false,decide_eq_true_iff] at h1
         omega
       rw [hnx,hl] at hs1
       rw [show lvB (some r) = (r : Int) from rfl]
       simp -dsimp(disch:=first|exact om|fail)only[go_sem,simprocAttr,xE,xN,xC,xP,xA,xZ,hr0]
       refine callG' [0] (X1b m N hm hN u hokn.sz hokn.d (fun i hi=>by have:=hokn.b i hi; omega) r j hr hjN) (by decide) lL lL lE lF ?_
       simp -dsimp(disch:=first|exact om|fail)only[go_sem,simprocAttr,xE,xN,xC,xP,xA,xZ]
       refine ⟨(n + 1,true),.inl ⟨rfl,by show n + 1 ≤ K; omega⟩,by show 2 * (K - (n + 1)) + _ < 2 * (K - n) + _; simp only [if_pos]; omega, ?_⟩
       rw [show itI m N o s (n + 1,true).1 = itI m N o s (n + 1) from rfl,hs1]
       exact StI.ren [some 0] [[]] lE (by decide) lW lW
     ·have hp' : sgZ (gnI u m o j) ≤ 0:=Q6o.2 (by omega)
      have hsk:=hskip (by rw [decide_eq_false hp,Bool.and_false])
      simp -dsimp(disch:=first|exact om|fail)only[go_sem,simprocAttr,xE,xN,xC,xP,xA,xZ,hp']
      refine ⟨j + 1,by omega,by omega, ?_⟩
      refine StI.ren [some 0] [[2,1]] lE (by decide) ?_ lW
      simp -dsimp(disch:=first|exact om|fail)only[go_sem,simprocAttr,xE,xN,xC,xP,xA,xZ]
      exact Q5s (s:=u) rfl rfl
    ·have hsk:=hskip (by rw [hfr,hbs]; rfl)
     simp -dsimp(disch:=first|exact om|fail)only[go_sem,simprocAttr,xE,xN,xC,xP,xA,xZ]
     refine ⟨j + 1,by omega,by omega, ?_⟩
     refine StI.ren [some 0] [[2,1]] lE (by decide) ?_ lW
     simp -dsimp(disch:=first|exact om|fail)only[go_sem,simprocAttr,xE,xN,xC,xP,xA,xZ]
     exact Q5s (s:=u) rfl rfl
  ·obtain rfl : j = N:=by omega
   have hkj : k = j:=by omega
   have hnn : n = K:=hend (by rw [hstop]; simp [hkj])
   have hzz : u = z:=hres hnn
   simp -dsimp(disch:=first|exact om|fail)only[go_sem,simprocAttr,xE,xN,xC,xP,xA,xZ]
   refine ⟨(n,false),.inr ⟨rfl,hnn,by rw [← hzz,hk]; exact hkj⟩,by show 2 * (K - n) + 0 < 2 * (K - n) + 1; omega, ?_⟩
   rw [show itI m j o s (n,false).1 = itI m j o s n from rfl,hu]
   exact StI.ren [some 0] [[]] lE (by decide) lW lW
 ·have hokn:=hok n (Nat.le_refl _)
  rw [if_pos he,decide_eq_true he]
  generalize itI m N o s n = z at *
  have hR : ∀ k,(resI z m o).fr k = (z.fr k && !(!(basB z.β m k) && decide (gnI z m o k < 0))):=fun k=>rfl
  have hRz : resI z m o = { z with fr:=(resI z m o).fr }:=rfl
  rw [hRz]
  generalize (resI z m o).fr = R at *
  obtain ⟨F,hF⟩ : ∃ F : Nat → Nat → Bool,F = fun j a=>if a < j then R a else z.fr a:=⟨_,rfl⟩
  have hF0 : F 0 = z.fr:=by rw [hF]; funext a; simp
  have hFi : ∀ j,F j j = z.fr j:=fun j=>by rw [hF]; simp
  have hFe : frC N (F N) = frC N R:=by
   show gL N _ = gL N _
   exact Q9F fun a ha=>by rw [hF]; simp [ha]
  have hFn : ∀ j,R j = z.fr j → F (j + 1) = F j:=fun j e=>by
   rw [hF]; funext a; simp only
   by_cases q : a = j
   ·subst q; simp [e]
   ·by_cases q2 : a < j
    ·simp [q2,show a < j + 1 by omega]
    ·simp [q2,show ¬ a < j + 1 by omega]
  have hFs : ∀ j,R j = false → (fun a=>if a = j then false else F j a) = F (j + 1):=fun j e=>by
   rw [hF]; funext a; simp only
   by_cases q : a = j
   ·subst q; simp [e]
   ·by_cases q2 : a < j
    ·simp [q,q2,show a < j + 1 by omega]
    ·simp [q,q2,show ¬ a < j + 1 by omega]
  clear hF
  simp -dsimp(disch:=first|exact om|fail)only[go_sem,simprocAttr,xE,xN,xC,xP,xA,xZ]
  refine loopJ (fun j : Nat=>j ≤ N) (fun j=>⟨[(0,.ref 0 0),(1,.sl .b 1 N (iC (oL N o))),(53,I N),(54,I j)],[tiO m N { z with fr:=F j }]⟩) (fun j=>N - j) 0 (by omega) ?_ ?_
  ·rw [hF0]
   exact StI.ren [some 0] [[]] lE (by decide) lW lW
  intro j hj
  by_cases hjN : j < N
  ·have hc:=X1A .b flb m z.β hm (fun i hi=>by have:=hokn.b i hi; omega) j (by omega)
   have hg:=X9o m N hm hN { z with fr:=F j } ⟨hokn.sz.dB,hokn.sz.WB⟩ hokn.b o ho j hjN
   rw [show gnI { z with fr:=F j } m o j = gnI z m o j from rfl] at hg
   have hset:=X7h (fr:=F j) (b:=false) hjN
   have hRj:=hR j
   simp -dsimp(disch:=first|exact om|fail)only[go_sem,simprocAttr,xE,xN,xC,xP,xA,xZ]
   refine ⟨_,X5O, ?_⟩
   cases hfr : z.fr j
   ·rw [hfr] at hRj
    have e:=hFn j (by rw [hRj,hfr]; rfl)
    have hfr2 : F j j = false:=by rw [hFi,hfr]
    simp -dsimp(disch:=first|exact om|fail)only[go_sem,simprocAttr,xE,xN,xC,xP,xA,xZ,hfr2]
    refine ⟨j + 1,by omega,by omega, ?_⟩
    rw [e]
    refine StI.ren [some 0] [[2,1]] lE (by decide) ?_ lW
    simp -dsimp(disch:=first|exact om|fail)only[go_sem,simprocAttr,xE,xN,xC,xP,xA,xZ]
    exact Q5s (s:=z) rfl rfl
   ·have hfr2 : F j j = true:=by rw [hFi,hfr]
    simp -dsimp(disch:=first|exact om|fail)only[go_sem,simprocAttr,xE,xN,xC,xP,xA,xZ,hfr2]
    refine callP hc lL ?_
    cases hbs : basB z.β m j
    ·simp -dsimp(disch:=first|exact om|fail)only[go_sem,simprocAttr,xE,xN,xC,xP,xA,xZ]
     refine callP hg lL ?_
     by_cases hp : gnI z m o j < 0
     ·have hp' : sgZ (gnI z m o j) < 0:=X5Z.2 hp
      have hRf : R j = false:=by rw [hRj,hfr,hbs,decide_eq_true hp]; rfl
      rw [hFs j hRf] at hset
      simp -dsimp(disch:=first|exact om|fail)only[go_sem,simprocAttr,xE,xN,xC,xP,xA,xZ,hp',hset]
      refine ⟨j + 1,by omega,by omega, ?_⟩
      refine StI.ren [some 0] [[2,1]] lE (by decide) ?_ lW
      simp -dsimp(disch:=first|exact om|fail)only[go_sem,simprocAttr,xE,xN,xC,xP,xA,xZ]
      exact Q5s (s:=z) rfl rfl
     ·have hp' : ¬ sgZ (gnI z m o j) < 0:=fun q=>hp (X5Z.1 q)
      have e:=hFn j (by rw [hRj,hbs,decide_eq_false hp]; simp)
      simp -dsimp(disch:=first|exact om|fail)only[go_sem,simprocAttr,xE,xN,xC,xP,xA,xZ,hp']
      refine ⟨j + 1,by omega,by omega, ?_⟩
      rw [e]
      refine StI.ren [some 0] [[2,1]] lE (by decide) ?_ lW
      simp -dsimp(disch:=first|exact om|fail)only[go_sem,simprocAttr,xE,xN,xC,xP,xA,xZ]
      exact Q5s (s:=z) rfl rfl
    ·have e:=hFn j (by rw [hRj,hbs]; simp)
     simp -dsimp(disch:=first|exact om|fail)only[go_sem,simprocAttr,xE,xN,xC,xP,xA,xZ]
     refine ⟨j + 1,by omega,by omega, ?_⟩
     rw [e]
     refine StI.ren [some 0] [[2,1]] lE (by decide) ?_ lW
     simp -dsimp(disch:=first|exact om|fail)only[go_sem,simprocAttr,xE,xN,xC,xP,xA,xZ]
     exact Q5s (s:=z) rfl rfl
  ·obtain rfl : j = N:=by omega
   simp -dsimp(disch:=first|exact om|fail)only[go_sem,simprocAttr,xE,xN,xC,xP,xA,xZ]
   have eT : tiO m j { z with fr:=F j } = tiO m j { z with fr:=R }:=by
    show (⟨_,_,[_,_,_,_,_,.sl .u 1 j (frC j (F j))]⟩ : Ob) = ⟨_,_,[_,_,_,_,_,.sl .u 1 j (frC j R)]⟩
    rw [hFe]
   rw [← eT]
   exact RtG.nothing [some 0] lE (by decide) lW lW
end Go.Proofs.Ytchlpclgkhggeaa