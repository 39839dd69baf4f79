/- part of the proof -/
import Derived.Test.YtchlpclgkhggeaaGreatWTn
import Derived.Test.YtchlpclgkhggeaaGreatWTd
import Derived.Test.YtchlpclgkhggeaaGreatWXa
import Derived.Test.YtchlpclgkhggeaaGreatWJa
import Derived.Test.YtchlpclgkhggeaaGreatWSg
namespace Go.Proofs.YtchlpclgkhggeaaGreat
open Go Go.RowKit
set_option maxRecDepth 100000
set_option maxHeartbeats 4000000
set_option linter.unusedVariables false
set_option linter.unusedSimpArgs false
theorem FV.fit {x : FQ} {r : Rat} {k : Nat} (h : FV x r k) (hk : k ≤ 696) : x = FQ.fit r:=FQ.ext (by rw [h.v,X5L h.s hk])
theorem Y4g {p : LP} {cc : Nat → Rat} {m c : Nat} {s : SP} {t : Tb} (h : SR p cc m c s t) (ht : Tab m c t) (j : Nat) : ∀ k,k ≤ m → FV (xSol c s k j) (sm k (fun i=>if t.β i = j then t.A i c else 0)) 195
 | 0,_=>FV.ofInt (z:=0) (Nat.zero_le _) (by omega)
 | k + 1,hk=>by
  have ih:=Y4g h ht j k (by omega)
  have hb:=h.beta k (by omega)
  show FV (if j = s.β k then s.M k c else xSol c s k j) (sm k (fun i=>if t.β i = j then t.A i c else 0) + if t.β k = j then t.A k c else 0) 195
  by_cases e : j = s.β k
  ·have e2 : t.β k = j:=by rw [← hb,e]
   have z : sm k (fun i=>if t.β i = j then t.A i c else 0) = 0:=Q0R fun i hi=>if_neg fun q=>by
    have:=ht.inj (i:=i) (k:=k) (by omega) (by omega) (by rw [q,e2])
    omega
   have v:=h.val k c (by omega) (Nat.le_refl _)
   rw [if_pos e,if_pos e2,z]
   have e3 : (0 : Rat) + t.A k c = t.A k c:=by grind
   rw [e3]; exact v
  ·have e2 : ¬ t.β k = j:=fun q=>e (by rw [hb,q])
   rw [if_neg e,if_neg e2]
   have e3 : sm k (fun i=>if t.β i = j then t.A i c else 0) + 0 = sm k (fun i=>if t.β i = j then t.A i c else 0):=by grind
   rw [e3]; exact ih
noncomputable def lpR (p : Prg) : QD:=⟨(lpOf p.lp).1,(lpOf p.lp).2.1.map qd,qd (lpOf p.lp).2.2⟩
theorem PD.end2 {p : Prg} {r c : Nat} (h : PD p r c) {z : SP} {u : Tb} (q : CD p r c r z u) : ∃ K,stopS (kp c z r).length c true (itS (kp c z r).length c true (secS p c r (c + r) z) K) = true ∧
  (∀ n,n < K → stopS (kp c z r).length c true (itS (kp c z r).length c true (secS p c r (c + r) z) n) = false) ∧
  (∀ i,i < (kp c z r).length → (itS (kp c z r).length c true (secS p c r (c + r) z) K).β i < c) ∧
  (if decide (entS (itS (kp c z r).length c true (secS p c r (c + r) z) K) (kp c z r).length c true = c) = true then (0,rowQ c (xSol c (itS (kp c z r).length c true (secS p c r (c + r) z) K) (kp c z r).length),((itS (kp c z r).length c true (secS p c r (c + r) z) K).cost c).neg) else (3,[],FQ.bad)) = lpOf p.lp:=by
 obtain ⟨hp,hr⟩:=h.run2 q
 have hle : (kp c z r).length ≤ r:=kp_le
 have hL : Lk p.lp p.lp.c c true p.lp.C (p.lp.n + 1):=Lk.deep h.n.symm rfl
 generalize (kp c z r).length = m at *
 generalize secS p c r (c + r) z = s0 at *
 generalize tb2 c r z u = t0 at *
 obtain ⟨K,g1,g2,g3,g4⟩:=runS hL (by rw [h.m]; exact h.r20) (by rw [h.m]; exact hle) (c_ib h) hr
 have hph : ∀ n,n ≤ K → Ph2 p.lp c m (itT m c true s0 t0 n):=by
  intro n
  induction n with
  | zero=>intro _; exact hp
  | succ n ih =>
   intro hn
   obtain ⟨k,rr,st⟩:=g4 n (by omega)
   exact (ih (by omega)).step st (by rw [h.n]; exact st.ent.lt)
 have hK:=g3 K (Nat.le_refl _)
 have hP:=hph K (Nat.le_refl _)
 have hent:=X7Q hK.sr hK.tab hL
 have hlv:=fun hlt=>X6L (k:=entS (itS m c true s0 K) m c true) hK.sr hlt m (Nat.le_refl _)
 have hel : entS (itS m c true s0 K) m c true ≤ c:=Y0V
 refine ⟨K,g1,g2,fun i hi=>by rw [hK.sr.beta i hi]; have:=hP.bn i hi; rw [h.n] at this; exact this, ?_⟩
 have hcost:=hK.sr.cost c (Nat.le_refl _)
 have hsol:=fun j=>Y4g hK.sr hK.tab j m (Nat.le_refl _)
 unfold stopS at g1
 generalize entS (itS m c true s0 K) m c true = e at *
 generalize itT m c true s0 t0 K = t at *
 generalize itS m c true s0 K = s at *
 by_cases hee : e = c
 ·rw [if_pos (decide_eq_true hee)]
  have hend:=hent.2 hee
  have hbest : p.lp.Best (pt m p.lp.n t):=by
   have hP':=hP
   rw [← h.n] at hP' hend
   exact hP'.best hend
  rw [X3f hbest,h.n]
  have e1 : rowQ c (xSol c s m) = (List.range c).map (fun j=>FQ.fit (pt m c t j)):=List.map_congr_left fun j _=>(hsol j).fit (by omega)
  have hval:=hP.val (c:=p.lp.c)
  have hg : gain m t p.lp.c c = -p.lp.v (pt m c t):=by
   have hc0 : p.lp.c c = 0:=by rw [h.C,h.cn]; rfl
   show p.lp.c c - Go.Proofs.YtchlpclgkhggeaaGreat.val m c t p.lp.c = _
   rw [hc0,hval]
   unfold LP.v
   grind
  rw [hg] at hcost
  have e2 : (s.cost c).neg = FQ.fit (p.lp.v (pt m c t)):=by
   have:=hcost.neg
   rw [Rat.neg_neg] at this
   exact this.fit (by omega)
  rw [e1,e2]
 ·rw [if_neg (by simpa using hee)]
  have hlt : e < c:=by omega
  have he:=hent.1 hlt
  have hl:=hlv hlt
  cases e2 : lvS s c e m with
  | some bl =>
   rw [e2] at g1
   simp only [Option.isNone_some,Bool.or_false,decide_eq_true_iff] at g1
   exact absurd g1 hee
  | none =>
   rw [e2] at hl
   rw [X7E (hP.open (l0:=0) he (by rw [h.n]; exact hlt) hl (fun l _=>by rw [Nat.zero_add])).2]
theorem Y3D (f : Fl) (hf : f ≠ .u) (p : Prg) (ho : okP' p = true) : PC PP Q4E [pV f p] (reV .s (lpR p)) []:=by
 obtain ⟨r,c,hr,hc⟩ : ∃ r c : Nat,p.rows = r ∧ p.cols = c:=by
  obtain ⟨⟨r1,r2⟩,⟨c1,c2⟩,_⟩:=Q0F ho
  exact ⟨p.rows.toNat,p.cols.toNat,by omega,by omega⟩
 have h:=PD.mk' ho hr hc
 have h20:=h.r20
 have h40:=h.c40
 obtain ⟨K1,t1,a1,a2,a3,a4,a5⟩:=h.end1
 have hβ0 : ∀ i,i < r → (fstS p r c).β i ≤ 60:=fun i hi=>by show c + i ≤ 60; omega
 have hrun1:=Y4R r (c + r) (by omega) (by omega) false (fstS p r c) K1 hβ0 a1 a2
 have hβ1:=Y7X (m:=r) (N:=c + r) (deep:=false) (s:=fstS p r c) (by omega) hβ0 K1
 generalize itS r (c + r) false (fstS p r c) K1 = s1 at *
 by_cases hz : (s1.cost (c + r)).num = 0
 ·obtain ⟨u,hu⟩:=h.cln a3 (a5 (a4.1 hz)) r (Nat.le_refl _)
  obtain ⟨K2,b1,b2,b3,b4⟩:=h.end2 hu
  have hle : (kp c (cln c s1 r) r).length ≤ r:=kp_le
  have hβ2 : ∀ i,i < (kp c (cln c s1 r) r).length → (secS p c r (c + r) (cln c s1 r)).β i ≤ 60:=fun i hi=>by
   have:=(X6R (c:=c) (m:=r) (s:=cln c s1 r) hi).2
   show (cln c s1 r).β (kpI c r (cln c s1 r) i) ≤ 60
   omega
  have hrun2:=Y4R (kp c (cln c s1 r) r).length c (by omega) (by omega) true (secS p c r (c + r) (cln c s1 r)) K2 hβ2 b1 b2
  have q:=X9T f hf p r c ho hr hc s1 _ _ _ _ rfl hrun1 (fun _=>hrun2) hβ1 (fun _=>b3)
  have e : solQ r c s1 (itS (kp c (cln c s1 r) r).length c true (secS p c r (c + r) (cln c s1 r)) K2) (kp c (cln c s1 r) r).length (decide (entS (itS (kp c (cln c s1 r) r).length c true (secS p c r (c + r) (cln c s1 r)) K2) (kp c (cln c s1 r) r).length c true = c)) = lpR p:=by
   unfold solQ lpR
   rw [if_pos hz,← b4]
   split
   ·rfl
   ·rw [show qd FQ.bad = RD.zero from Q4S]; rfl
  rw [e] at q; exact q
 ·have q:=X9T f hf p r c ho hr hc s1 s1 _ true _ rfl hrun1 (fun e=>absurd e hz) hβ1 (fun e=>absurd e hz)
  have e : solQ r c s1 s1 (kp c (cln c s1 r) r).length true = lpR p:=by
   unfold solQ lpR
   rw [if_neg hz,X3e (fun hx=>hz (a4.2 hx))]
   rw [show qd FQ.bad = RD.zero from Q4S]; rfl
  rw [e] at q; exact q
theorem Z0c {l : List FQ} : allG l = true ↔ ∀ x ∈ l,x.good = true:=by unfold allG; rw [List.all_eq_true]
mutual
def V.tb : V → V
 | .ptr .s cs=>.ptr .b (V.tbL cs)
 | .sl .s sz n cs=>.sl .b sz n (V.tbL cs)
 | .agg vs=>.agg (V.tbL vs)
 | .tup vs=>.tup (V.tbL vs)
 | v=>v
def V.tbL : List V → List V
 | []=>[]
 | v :: vs=>V.tb v :: V.tbL vs
end
mutual
def V.onlyS : V → Prop
 | .any | .lit _ | .emp=>True
 | .ptr .s cs=>V.onlySL cs
 | .sl .s _ _ cs=>V.onlySL cs
 | .agg vs=>V.onlySL vs
 | .tup vs=>V.onlySL vs
 | .rsl _ _ _ _ | .ref _ _ | .mp _=>True
 | _=>False
def V.onlySL : List V → Prop
 | []=>True
 | v :: vs=>V.onlyS v ∧ V.onlySL vs
end
theorem X4K : ∀ {vs : List V},(V.tbL vs).length = vs.length
 | []=>rfl
 | v :: vs=>by rw [V.tbL,List.length_cons,List.length_cons,X4K]
section
variable {w : World} {S B T : BS}
mutual
theorem Rep.of_tb (hT : ∀ b,S b ∨ B b → T b) : ∀ (κ : KM) (v : V) (x : Value) (us : List Nat),v.onlyS → Rep w S B κ v.tb x us → Rep w T (fun _=>False) κ v x us
 | κ,.any,x,us,_,h=>h
 | κ,.lit _,x,us,_,h=>h
 | κ,.emp,x,us,_,h=>h
 | κ,.ptr .s cs,x,us,ho,⟨b,o,u,h1,h2,h3⟩=>⟨b,o,u,h1,Mem.of_tb hT [] cs b o u ho h2,hT b h3.1,h3.2⟩
 | κ,.sl .s sz n cs,x,us,ho,⟨a,c,h1,h2,h3,h4,h5⟩=>by
  refine ⟨a,c,h1,h2,h3,by rw [X4K] at h4; exact h4, ?_⟩
  rcases h5 with ⟨h5,h6⟩ | ⟨b,o,u,e,h6,h7⟩
  ·exact .inl ⟨h5,h6.1,fun h=>by cases h⟩
  ·exact .inr ⟨b,o,u,e,Mem.of_tb hT [] cs b o u ho h6,hT b h7.1,h7.2⟩
 | κ,.agg vs,x,us,ho,⟨xs,h1,h2⟩=>⟨xs,h1,RepL.of_tb hT κ vs _ us ho h2⟩
 | κ,.tup vs,x,us,ho,⟨xs,h1,h2⟩=>⟨xs,h1,RepL.of_tb hT κ vs _ us ho h2⟩
 | κ,.ref _ _,x,us,_,h=>h
 | κ,.rsl _ _ _ _,x,us,_,h=>h
 | κ,.mp _,x,us,_,h=>h
theorem RepL.of_tb (hT : ∀ b,S b ∨ B b → T b) : ∀ (κ : KM) (vs : List V) (xs : List Value) (us : List Nat),V.onlySL vs → RepL w S B κ (V.tbL vs) xs us → RepL w T (fun _=>False) κ vs xs us
 | κ,[],xs,us,_,h=>h
 | κ,v :: vs,xs,us,ho,⟨x,xs',u1,u2,h1,h2,h3,h4⟩=>⟨x,xs',u1,u2,h1,h2,Rep.of_tb hT κ v x u1 ho.1 h3,RepL.of_tb hT κ vs xs' u2 ho.2 h4⟩
theorem Mem.of_tb (hT : ∀ b,S b ∨ B b → T b) : ∀ (κ : KM) (cs : List V) (b o : Nat) (us : List Nat),V.onlySL cs → Mem w S B κ (V.tbL cs) b o us → Mem w T (fun _=>False) κ cs b o us
 | κ,[],b,o,us,_,h=>h
 | κ,v :: vs,b,o,us,ho,⟨x,u1,u2,h1,h2,h3,h4⟩=>⟨x,u1,u2,h1,h2,Rep.of_tb hT κ v x u1 ho.1 h3,Mem.of_tb hT κ vs b (o + 1) u2 ho.2 h4⟩
end
mutual
theorem Rep.to_tb (hT : ∀ b,T b → S b ∨ B b) : ∀ (κ : KM) (v : V) (x : Value) (us : List Nat),v.onlyS → Rep w T (fun _=>False) κ v x us → Rep w S B κ v.tb x us
 | κ,.any,x,us,_,h=>h
 | κ,.lit _,x,us,_,h=>h
 | κ,.emp,x,us,_,h=>h
 | κ,.ptr .s cs,x,us,ho,⟨b,o,u,h1,h2,h3⟩=>⟨b,o,u,h1,Mem.to_tb hT [] cs b o u ho h2,hT b h3.1,h3.2⟩
 | κ,.sl .s sz n cs,x,us,ho,⟨a,c,h1,h2,h3,h4,h5⟩=>by
  refine ⟨a,c,h1,h2,h3,by rw [X4K]; exact h4, ?_⟩
  rcases h5 with ⟨h5,h6⟩ | ⟨b,o,u,e,h6,h7⟩
  ·exact .inl ⟨h5,h6.1,fun h=>by cases h⟩
  ·exact .inr ⟨b,o,u,e,Mem.to_tb hT [] cs b o u ho h6,hT b h7.1,h7.2⟩
 | κ,.agg vs,x,us,ho,⟨xs,h1,h2⟩=>⟨xs,h1,RepL.to_tb hT κ vs _ us ho h2⟩
 | κ,.tup vs,x,us,ho,⟨xs,h1,h2⟩=>⟨xs,h1,RepL.to_tb hT κ vs _ us ho h2⟩
 | κ,.ref _ _,x,us,_,h=>h
 | κ,.rsl _ _ _ _,x,us,_,h=>h
 | κ,.mp _,x,us,_,h=>h
theorem RepL.to_tb (hT : ∀ b,T b → S b ∨ B b) : ∀ (κ : KM) (vs : List V) (xs : List Value) (us : List Nat),V.onlySL vs → RepL w T (fun _=>False) κ vs xs us → RepL w S B κ (V.tbL vs) xs us
 | κ,[],xs,us,_,h=>h
 | κ,v :: vs,xs,us,ho,⟨x,xs',u1,u2,h1,h2,h3,h4⟩=>⟨x,xs',u1,u2,h1,h2,Rep.to_tb hT κ v x u1 ho.1 h3,RepL.to_tb hT κ vs xs' u2 ho.2 h4⟩
theorem Mem.to_tb (hT : ∀ b,T b → S b ∨ B b) : ∀ (κ : KM) (cs : List V) (b o : Nat) (us : List Nat),V.onlySL cs → Mem w T (fun _=>False) κ cs b o us → Mem w S B κ (V.tbL cs) b o us
 | κ,[],b,o,us,_,h=>h
 | κ,v :: vs,b,o,us,ho,⟨x,u1,u2,h1,h2,h3,h4⟩=>⟨x,u1,u2,h1,h2,Rep.to_tb hT κ v x u1 ho.1 h3,Mem.to_tb hT κ vs b (o + 1) u2 ho.2 h4⟩
end
end
theorem PC.lent {P : Program} {f : FuncId} {args : List V} {r : V} {objs : List Ob} (h : PC P f args r objs) (ha : V.onlySL args) (hr : r.onlyS) (ho : ∀ ob ∈ objs,ob.st = .own ∧ V.onlySL ob.cs) :
  PB P f (V.tbL args) r.tb (objs.map fun ob=>{ ob with cs:=V.tbL ob.cs }):=by
 refine ⟨h.1,fun w S B xs hb hrep=>?_⟩
 have hb' : ∀ b,(S b ∨ B b) ∨ False → b < w.heap.size:=fun b hx=>hb b (hx.elim id False.elim)
 refine (h.2 w (fun b=>S b ∨ B b) (fun _=>False) xs hb' (RepL.of_tb (fun _ h=>h) [] args xs [] ha hrep)).mono ?_
 rintro e w' ⟨x,rfl,hbl,κ,S',uss,h1,h2,h3,h4,h5,h6,h7,h8,h9⟩
 have hT : ∀ b,S' b → (S' b ∧ (S b ∨ w.heap.size ≤ b)) ∨ B b:=by
  intro b hs
  rcases h2 b hs with (q | q) | q
  ·exact .inl ⟨hs,.inl q⟩
  ·exact .inr q
  ·exact .inl ⟨hs,.inr q.1⟩
 refine ⟨x,rfl,hbl,κ,fun b=>S' b ∧ (S b ∨ w.heap.size ≤ b),uss,fun b hs=>⟨h1 b (.inl hs),.inl hs⟩, ?_,Rep.to_tb hT κ r x [] hr h3,by simpa using h4, ?_,by simpa using h6, ?_,h8,fun b hb=>⟨(h9 b hb).1,(h9 b hb).2.1,fun hs=>(h9 b hb).2.2 hs.1⟩⟩
 ·rintro b ⟨hs,q | q⟩
  ·exact .inl q
  ·rcases h2 b hs with (q' | q') | q'
   ·exact .inl q'
   ·have:=hb b (.inr q'); omega
   ·exact .inr q'
 ·intro i ob a st
  rw [List.getElem?_map] at a
  cases e : objs[i]? with
  | none=>rw [e] at a; simp at a
  | some ob' =>
   rw [e] at a
   simp only [Option.map_some,Option.some.injEq] at a
   exact h5 i ob' e (.inl (ho ob' (List.mem_of_getElem? e)).1)
 ·intro i ob k us a b c
  rw [List.getElem?_map] at a
  cases e : objs[i]? with
  | none=>rw [e] at a; simp at a
  | some ob' =>
   rw [e] at a
   simp only [Option.map_some,Option.some.injEq] at a
   subst a
   have q:=h7 i ob' k us e b c
   obtain ⟨st,ty,cs⟩:=ob'
   obtain ⟨rfl,ho2⟩:=ho _ (List.mem_of_getElem? e)
   rcases q with ⟨q1,q2,q3⟩ | ⟨b',arr,u,q1,q2,q3,q4⟩
   ·have q2 : cs = []:=q2
    subst q2
    exact .inl ⟨q1,rfl,q3⟩
   ·exact .inr ⟨b',arr,u,q1,q2,q3,Mem.to_tb hT κ cs b' 0 u ho2 q4⟩
theorem X9L (z : Int) : PC PP Q1u [zV .s z] (zV .s (-z)) []:=by
 refine tx Q2K Q1n [] (by kernel_rfl) ?_
 simp -dsimp(disch:=first|exact om|fail)only[go_sem,simprocAttr,xE,xN,xC,xP,xA,xZ]
 refine callP (Q2T (-z) (!zb z) z.natAbs (Y3m z)) lL ?_
 simp -dsimp(disch:=first|exact om|fail)only[go_sem,simprocAttr,xE,xN,xC,xP,xA,xZ]
theorem Y9p (p q : Bool) (a b : Nat) : sgn (p != q) (a / b) = (sgn p a).tdiv (sgn q b):=by
 have e : ((a / b : Nat) : Int) = (a : Int).tdiv (b : Int):=by rw [Int.ofNat_tdiv]
 unfold sgn
 cases p <;> cases q <;> simp [e,Int.neg_tdiv,Int.tdiv_neg]
theorem Z0V (x y : Int) : sgn (zb x != zb y) (x.natAbs / y.natAbs) = x.tdiv y:=by rw [Y9p,Q1v,Q1v]
theorem X7P (f g : Fl) (hf : f ≠ .u) (hg : g ≠ .u) (x y : Int) (hy0 : y ≠ 0) (hx : (lim x.natAbs).length ≤ 1000000) (hy : (lim y.natAbs).length ≤ 1000000) : PC PP Q3o [zV f x,zV g y] (zV .s (x.tdiv y)) []:=by
 refine tx Q9u Q2F [] (by kernel_rfl) ?_
 simp -dsimp(disch:=first|exact om|fail)only[go_sem,simprocAttr,xE,xN,xC,xP,xA,xZ]
 refine callP (Y2p f g hf hg x.natAbs y.natAbs (by omega) (by omega) (by omega)) lL ?_
 simp -dsimp(disch:=first|exact om|fail)only[go_sem,simprocAttr,xE,xN,xC,xP,xA,xZ]
 refine callP (Q2T (x.tdiv y) (zb x != zb y) (x.natAbs / y.natAbs) (Z0V x y)) lL ?_
 simp -dsimp(disch:=first|exact om|fail)only[go_sem,simprocAttr,xE,xN,xC,xP,xA,xZ]
def ixBs (β : Nat → Nat) (m k : Nat) : Int:=if fstN (fun i=>decide (β i = k)) m < m then ((fstN (fun i=>decide (β i = k)) m : Nat) : Int) else -1
theorem Z2l (g : Fl) (hg : g ≠ .u) (m : Nat) (β : Nat → Nat) (hm : m ≤ 20) (hβ : ∀ i,i < m → β i ≤ 60) (k : Nat) (hk : k ≤ 60) : PC PP Q2L [.sl g 1 m (iC (bL m β)),I k] (I (ixBs β m k)) []:=by
 obtain ⟨f1,f2,f3⟩:=Q0J (P:=fun i=>decide (β i = k)) (n:=m)
 have hi : ixBs β m k = if fstN (fun i=>decide (β i = k)) m < m then ((fstN (fun i=>decide (β i = k)) m : Nat) : Int) else -1:=rfl
 generalize fstN (fun i=>decide (β i = k)) m = n at *
 refine tx Q8d Q2p [] (by kernel_rfl) ?_
 simp -dsimp(disch:=first|exact om|fail)only[go_sem,simprocAttr,xE,xN,xC,xP,xA,xZ]
 refine loopI (fun i : Nat=>i ≤ n) (fun i=>⟨[(0,.sl g 1 m (iC (bL m β))),(1,I k),(7,I m),(8,I i)],[]⟩) (fun i=>m - i) 0 (by omega) ?_ ?_
 ·simp -dsimp(disch:=first|exact om|fail)only[go_sem,simprocAttr,xE,xN,xC,xP,xA,xZ]
 intro i hin
 by_cases h : i < m
 ·by_cases e : β i = k
  ·have hn : i = n:=by
    rcases Nat.lt_or_eq_of_le hin with q | q
    ·have:=f2 i q
     simp [e] at this
    ·exact q
   have e1 : (k : Int) = ((β i : Nat) : Int):=by omega
   rw [hi,if_pos (by omega),← hn]
   simp -dsimp(disch:=first|exact om|fail)only[go_sem,simprocAttr,xE,xN,xC,xP,xA,xZ,e1]
  ·have hn : i + 1 ≤ n:=by
    rcases Nat.lt_or_eq_of_le hin with q | q
    ·exact q
    ·have:=f3 (by omega)
     rw [← q] at this
     simp [e] at this
   have hb:=hβ i h
   have e1 : ¬ (k : Int) = ((β i : Nat) : Int):=by omega
   simp -dsimp(disch:=first|exact om|fail)only[go_sem,simprocAttr,xE,xN,xC,xP,xA,xZ,e1]
   exact ⟨i + 1,by omega,by omega,by simp -dsimp(disch:=first|exact om|fail)only[go_sem,simprocAttr,xE,xN,xC,xP,xA,xZ]⟩
 ·obtain rfl : m = i:=by omega
  rw [hi,if_neg (by omega)]
  simp -dsimp(disch:=first|exact om|fail)only[go_sem,simprocAttr,xE,xN,xC,xP,xA,xZ]
theorem Y0i (g : Fl) (hg : g ≠ .u) (m : Nat) (β : Nat → Nat) (hm : m ≤ 20) (hβ : ∀ i,i < m → β i ≤ 60) (k : Nat) (hk : k ≤ 60) : PC PP Q1P [.sl g 1 m (iC (bL m β)),I k] (Bo (basB β m k)) []:=by
 obtain ⟨f1,f2,f3⟩:=Q0J (P:=fun i=>decide (β i = k)) (n:=m)
 have q:=Z2l g hg m β hm hβ k hk
 refine tx Q5u Q1H [] (by kernel_rfl) ?_
 simp -dsimp(disch:=first|exact om|fail)only[go_sem,simprocAttr,xE,xN,xC,xP,xA,xZ]
 refine callP q lL ?_
 unfold ixBs
 by_cases h : fstN (fun i=>decide (β i = k)) m < m
 ·rw [if_pos h,show basB β m k = true from X3Y.2 ⟨_,h,of_decide_eq_true (f3 h)⟩]
  simp -dsimp(disch:=first|exact om|fail)only[go_sem,simprocAttr,xE,xN,xC,xP,xA,xZ]
 ·rw [if_neg h,Y0e (fun i hi e=>by have:=f2 i (by omega); simp [e] at this)]
  simp -dsimp(disch:=first|exact om|fail)only[go_sem,simprocAttr,xE,xN,xC,xP,xA,xZ]
end Go.Proofs.YtchlpclgkhggeaaGreat