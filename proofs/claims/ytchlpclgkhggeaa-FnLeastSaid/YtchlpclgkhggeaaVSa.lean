/- part of the proof -/
import Derived.Test.YtchlpclgkhggeaaVKa
import Derived.Test.YtchlpclgkhggeaaVFa
namespace Go.Proofs.Ytchlpclgkhggeaa
open Go Go.RowKit
set_option maxRecDepth 100000
set_option maxHeartbeats 4000000
set_option linter.unusedVariables false
set_option linter.unusedSimpArgs false
mutual
def V.tb : V → V
 | .ptr .s cs=>.ptr .b (V.tbL cs)
 | .sl .s sz n cs=>.sl .b sz n (V.tbL cs)
 | .agg vs=>.agg (V.tbL vs)
 | .tup vs=>.tup (V.tbL vs)
 | v=>v
def V.tbL : List V → List V
 | []=>[]
 | v :: vs=>V.tb v :: V.tbL vs
end
mutual
def V.onlyS : V → Prop
 | .any | .lit _ | .emp=>True
 | .ptr .s cs=>V.onlySL cs
 | .sl .s _ _ cs=>V.onlySL cs
 | .agg vs=>V.onlySL vs
 | .tup vs=>V.onlySL vs
 | .rsl _ _ _ _ | .ref _ _ | .mp _=>True
 | _=>False
def V.onlySL : List V → Prop
 | []=>True
 | v :: vs=>V.onlyS v ∧ V.onlySL vs
end
theorem Q8w : ∀ {vs : List V},(V.tbL vs).length = vs.length
 | []=>rfl
 | v :: vs=>by rw [V.tbL,List.length_cons,List.length_cons,Q8w]
section
variable {w : World} {S B T : BS}
mutual
theorem Rep.of_tb (hT : ∀ b,S b ∨ B b → T b) : ∀ (κ : KM) (v : V) (x : Value) (us : List Nat),v.onlyS → Rep w S B κ v.tb x us → Rep w T (fun _=>False) κ v x us
 | κ,.any,x,us,_,h=>h
 | κ,.lit _,x,us,_,h=>h
 | κ,.emp,x,us,_,h=>h
 | κ,.ptr .s cs,x,us,ho,⟨b,o,u,h1,h2,h3⟩=>⟨b,o,u,h1,Mem.of_tb hT [] cs b o u ho h2,hT b h3.1,h3.2⟩
 | κ,.sl .s sz n cs,x,us,ho,⟨a,c,h1,h2,h3,h4,h5⟩=>by
  refine ⟨a,c,h1,h2,h3,by rw [Q8w] at h4; exact h4, ?_⟩
  rcases h5 with ⟨h5,h6⟩ | ⟨b,o,u,e,h6,h7⟩
  ·exact .inl ⟨h5,h6.1,fun h=>by cases h⟩
  ·exact .inr ⟨b,o,u,e,Mem.of_tb hT [] cs b o u ho h6,hT b h7.1,h7.2⟩
 | κ,.agg vs,x,us,ho,⟨xs,h1,h2⟩=>⟨xs,h1,RepL.of_tb hT κ vs _ us ho h2⟩
 | κ,.tup vs,x,us,ho,⟨xs,h1,h2⟩=>⟨xs,h1,RepL.of_tb hT κ vs _ us ho h2⟩
 | κ,.ref _ _,x,us,_,h=>h
 | κ,.rsl _ _ _ _,x,us,_,h=>h
 | κ,.mp _,x,us,_,h=>h
theorem RepL.of_tb (hT : ∀ b,S b ∨ B b → T b) : ∀ (κ : KM) (vs : List V) (xs : List Value) (us : List Nat),V.onlySL vs → RepL w S B κ (V.tbL vs) xs us → RepL w T (fun _=>False) κ vs xs us
 | κ,[],xs,us,_,h=>h
 | κ,v :: vs,xs,us,ho,⟨x,xs',u1,u2,h1,h2,h3,h4⟩=>⟨x,xs',u1,u2,h1,h2,Rep.of_tb hT κ v x u1 ho.1 h3,RepL.of_tb hT κ vs xs' u2 ho.2 h4⟩
theorem Mem.of_tb (hT : ∀ b,S b ∨ B b → T b) : ∀ (κ : KM) (cs : List V) (b o : Nat) (us : List Nat),V.onlySL cs → Mem w S B κ (V.tbL cs) b o us → Mem w T (fun _=>False) κ cs b o us
 | κ,[],b,o,us,_,h=>h
 | κ,v :: vs,b,o,us,ho,⟨x,u1,u2,h1,h2,h3,h4⟩=>⟨x,u1,u2,h1,h2,Rep.of_tb hT κ v x u1 ho.1 h3,Mem.of_tb hT κ vs b (o + 1) u2 ho.2 h4⟩
end
mutual
theorem Rep.to_tb (hT : ∀ b,T b → S b ∨ B b) : ∀ (κ : KM) (v : V) (x : Value) (us : List Nat),v.onlyS → Rep w T (fun _=>False) κ v x us → Rep w S B κ v.tb x us
 | κ,.any,x,us,_,h=>h
 | κ,.lit _,x,us,_,h=>h
 | κ,.emp,x,us,_,h=>h
 | κ,.ptr .s cs,x,us,ho,⟨b,o,u,h1,h2,h3⟩=>⟨b,o,u,h1,Mem.to_tb hT [] cs b o u ho h2,hT b h3.1,h3.2⟩
 | κ,.sl .s sz n cs,x,us,ho,⟨a,c,h1,h2,h3,h4,h5⟩=>by
  refine ⟨a,c,h1,h2,h3,by rw [Q8w]; exact h4, ?_⟩
  rcases h5 with ⟨h5,h6⟩ | ⟨b,o,u,e,h6,h7⟩
  ·exact .inl ⟨h5,h6.1,fun h=>by cases h⟩
  ·exact .inr ⟨b,o,u,e,Mem.to_tb hT [] cs b o u ho h6,hT b h7.1,h7.2⟩
 | κ,.agg vs,x,us,ho,⟨xs,h1,h2⟩=>⟨xs,h1,RepL.to_tb hT κ vs _ us ho h2⟩
 | κ,.tup vs,x,us,ho,⟨xs,h1,h2⟩=>⟨xs,h1,RepL.to_tb hT κ vs _ us ho h2⟩
 | κ,.ref _ _,x,us,_,h=>h
 | κ,.rsl _ _ _ _,x,us,_,h=>h
 | κ,.mp _,x,us,_,h=>h
theorem RepL.to_tb (hT : ∀ b,T b → S b ∨ B b) : ∀ (κ : KM) (vs : List V) (xs : List Value) (us : List Nat),V.onlySL vs → RepL w T (fun _=>False) κ vs xs us → RepL w S B κ (V.tbL vs) xs us
 | κ,[],xs,us,_,h=>h
 | κ,v :: vs,xs,us,ho,⟨x,xs',u1,u2,h1,h2,h3,h4⟩=>⟨x,xs',u1,u2,h1,h2,Rep.to_tb hT κ v x u1 ho.1 h3,RepL.to_tb hT κ vs xs' u2 ho.2 h4⟩
theorem Mem.to_tb (hT : ∀ b,T b → S b ∨ B b) : ∀ (κ : KM) (cs : List V) (b o : Nat) (us : List Nat),V.onlySL cs → Mem w T (fun _=>False) κ cs b o us → Mem w S B κ (V.tbL cs) b o us
 | κ,[],b,o,us,_,h=>h
 | κ,v :: vs,b,o,us,ho,⟨x,u1,u2,h1,h2,h3,h4⟩=>⟨x,u1,u2,h1,h2,Rep.to_tb hT κ v x u1 ho.1 h3,Mem.to_tb hT κ vs b (o + 1) u2 ho.2 h4⟩
end
end
theorem PC.lent {P : Program} {f : FuncId} {args : List V} {r : V} {objs : List Ob} (h : PC P f args r objs) (ha : V.onlySL args) (hr : r.onlyS) (ho : ∀ ob ∈ objs,ob.st = .own ∧ V.onlySL ob.cs) :
  PB P f (V.tbL args) r.tb (objs.map fun ob=>{ ob with cs:=V.tbL ob.cs }):=by
 refine ⟨h.1,fun w S B xs hb hrep=>?_⟩
 have hb' : ∀ b,(S b ∨ B b) ∨ False → b < w.heap.size:=fun b hx=>hb b (hx.elim id False.elim)
 refine (h.2 w (fun b=>S b ∨ B b) (fun _=>False) xs hb' (RepL.of_tb (fun _ h=>h) [] args xs [] ha hrep)).mono ?_
 rintro e w' ⟨x,rfl,hbl,κ,S',uss,h1,h2,h3,h4,h5,h6,h7,h8,h9⟩
 have hT : ∀ b,S' b → (S' b ∧ (S b ∨ w.heap.size ≤ b)) ∨ B b:=by
  intro b hs
  rcases h2 b hs with (q | q) | q
  ·exact .inl ⟨hs,.inl q⟩
  ·exact .inr q
  ·exact .inl ⟨hs,.inr q.1⟩
 refine ⟨x,rfl,hbl,κ,fun b=>S' b ∧ (S b ∨ w.heap.size ≤ b),uss,fun b hs=>⟨h1 b (.inl hs),.inl hs⟩, ?_,Rep.to_tb hT κ r x [] hr h3,by simpa using h4, ?_,by simpa using h6, ?_,h8,fun b hb=>⟨(h9 b hb).1,(h9 b hb).2.1,fun hs=>(h9 b hb).2.2 hs.1⟩⟩
 ·rintro b ⟨hs,q | q⟩
  ·exact .inl q
  ·rcases h2 b hs with (q' | q') | q'
   ·exact .inl q'
   ·have:=hb b (.inr q'); omega
   ·exact .inr q'
 ·intro i ob a st
  rw [List.getElem?_map] at a
  cases e : objs[i]? with
  | none=>rw [e] at a; simp at a
  | some ob' =>
   rw [e] at a
   simp only [Option.map_some,Option.some.injEq] at a
   exact h5 i ob' e (.inl (ho ob' (List.mem_of_getElem? e)).1)
 ·intro i ob k us a b c
  rw [List.getElem?_map] at a
  cases e : objs[i]? with
  | none=>rw [e] at a; simp at a
  | some ob' =>
   rw [e] at a
   simp only [Option.map_some,Option.some.injEq] at a
   subst a
   have q:=h7 i ob' k us e b c
   obtain ⟨st,ty,cs⟩:=ob'
   obtain ⟨rfl,ho2⟩:=ho _ (List.mem_of_getElem? e)
   rcases q with ⟨q1,q2,q3⟩ | ⟨b',arr,u,q1,q2,q3,q4⟩
   ·have q2 : cs = []:=q2
    subst q2
    exact .inl ⟨q1,rfl,q3⟩
   ·exact .inr ⟨b',arr,u,q1,q2,q3,Mem.to_tb hT κ cs b' 0 u ho2 q4⟩
theorem X1i (z : Int) : PC PP Q1a [zV .s z] (zV .s (-z)) []:=by
 refine tx Q2h Q0S [] (by kernel_rfl) ?_
 simp -dsimp(disch:=first|exact om|fail)only[go_sem,simprocAttr,xE,xN,xC,xP,xA,xZ]
 refine callP (Q2n (-z) (!zb z) z.natAbs (X5Y z)) lL ?_
 simp -dsimp(disch:=first|exact om|fail)only[go_sem,simprocAttr,xE,xN,xC,xP,xA,xZ]
def byC (l : List Int) : List V:=l.map fun b=>.lit (.int .u8 b)
abbrev byV (f : Fl) (l : List Int) : V:=.sl f 1 l.length (byC l)
@[go_sem] theorem Y2a {l : List Int} : (byC l).length = l.length:=by simp [byC]
@[go_sem] theorem Y9n {l : List Int} {i : Nat} (h : OM (i < l.length)) : ((byC l).drop i)[0]? = some (.lit (.int .u8 (l.getD i 0))):=by
 have h : i < l.length:=h
 simp [byC,List.getElem?_drop,h]
theorem LeL.bys {H : List Ob} {f : Fl} : ∀ {l : List Int},LeL H f (byC l) (byC l)
 | []=>.nil
 | _ :: _=>.cons _ _ _ _ (.lit _) LeL.bys
@[go_sem] theorem Z0y {H : List Ob} {f : Fl} {n : Nat} {l : List Int} : Le H f (.sl .s 1 n (byC l)) (.sl .s 1 n (byC l)) = True:=eq_true (.sl _ _ _ _ _ _ (.inl rfl) LeL.bys)
abbrev curO (l : List Int) (i : Nat) (h : Int) : Ob:=⟨.own,Q8t,[byV .s l,I i,I h]⟩
def bHash (h : Int) : Int:=IntKind.wrap .i64 (IntKind.wrap .i64 (h * 6364136223846793005) + 1442695040888963407)
def c255 (x : Int) : Int:=IntKind.wrap .i64 ((BitVec.ofInt IntKind.i64.bits x &&& BitVec.ofInt IntKind.i64.bits 255).toNat)
theorem X7I {x : Int} : IntKind.wrap .i64 ((BitVec.ofInt IntKind.i64.bits x &&& BitVec.ofInt IntKind.i64.bits 255).toNat) = c255 x:=(rfl)
theorem X7H (x : Int) : 0 ≤ c255 x ∧ c255 x ≤ 255:=by
 have h : (BitVec.ofInt IntKind.i64.bits x &&& BitVec.ofInt IntKind.i64.bits 255).toNat ≤ 255:=by
  rw [BitVec.toNat_and]
  exact Nat.le_trans Nat.and_le_right (by decide)
 unfold c255
 rw [w64 (by omega)]
 omega
def bRaw (h : Int) : Int:=c255 (IntKind.wrap .i64 ((BitVec.ofInt IntKind.i64.bits ((bHash h).fdiv (2 ^ 33)) ^^^ BitVec.ofInt IntKind.i64.bits ((bHash h).fdiv (2 ^ 45))).toNat))
theorem X7M {h : Int} : c255 (IntKind.wrap .i64 ((BitVec.ofInt IntKind.i64.bits ((bHash h).fdiv (2 ^ 33)) ^^^ BitVec.ofInt IntKind.i64.bits ((bHash h).fdiv (2 ^ 45))).toNat)) = bRaw h:=(rfl)
theorem X4Y {h : Int} : IntKind.wrap .i64 (IntKind.wrap .i64 (h * 6364136223846793005) + 1442695040888963407) = bHash h:=(rfl)
def bX (l : List Int) (i : Nat) (h : Int) : Int:=if i < l.length then c255 (IntKind.wrap .i64 (bRaw h + IntKind.wrap .i64 (l.getD i 0))) else bRaw h
def bI (l : List Int) (i : Nat) : Nat:=if i < l.length then i + 1 else i
theorem bI_le {l : List Int} {i : Nat} (h : i ≤ l.length) : bI l i ≤ l.length:=by unfold bI; split <;> omega
theorem bX_le (l : List Int) (i : Nat) (h : Int) : 0 ≤ bX l i h ∧ bX l i h ≤ 255:=by
 unfold bX
 split
 ·exact X7H _
 ·exact X7H _
theorem X6Z (l : List Int) (i : Nat) (h : Int) (hl : l.length ≤ 1048576) (hi : i ≤ l.length) : GC PP Q4k [.ref 0 0] [curO l i h] (I (bX l i h)) [curO l (bI l i) (bHash h)]:=by
  refine txg X0T Q5I 1 [] [] [] rfl (by kernel_rfl) ?_
  unfold bX bI
  by_cases h1 : i < l.length
  · rw [if_pos h1,if_pos h1]
    simp -dsimp(disch:=first|exact om|fail)only[go_sem,↓reduceIte,Nat.reduceEqDiff,Nat.reduceAdd,Nat.reduceSub,Nat.reduceMul,Nat.reduceLT,Nat.reduceLeDiff,reduceCtorEq,xE,xN,xC,xP,xA,xZ,Int.reduceToNat,X4Y,X7I,X7M,exists_eq_left']
    exact RtG.nothing [some 0] lE (by decide) (by simp -dsimp(disch:=first|exact om|fail)only[go_sem,↓reduceIte,Nat.reduceEqDiff,Nat.reduceAdd,Nat.reduceSub,Nat.reduceMul,Nat.reduceLT,Nat.reduceLeDiff,reduceCtorEq,xE,xN,xC,xP,xA,xZ,Int.reduceToNat,List.map_cons,List.map_nil]) lW
  · rw [if_neg h1,if_neg h1]
    simp -dsimp(disch:=first|exact om|fail)only[go_sem,↓reduceIte,Nat.reduceEqDiff,Nat.reduceAdd,Nat.reduceSub,Nat.reduceMul,Nat.reduceLT,Nat.reduceLeDiff,reduceCtorEq,xE,xN,xC,xP,xA,xZ,Int.reduceToNat,X4Y,X7I,X7M]
    exact RtG.nothing [some 0] lE (by decide) (by simp -dsimp(disch:=first|exact om|fail)only[go_sem,↓reduceIte,Nat.reduceEqDiff,Nat.reduceAdd,Nat.reduceSub,Nat.reduceMul,Nat.reduceLT,Nat.reduceLeDiff,reduceCtorEq,xE,xN,xC,xP,xA,xZ,Int.reduceToNat,List.map_cons,List.map_nil]) lW
structure CS where
 i : Nat
 h : Int
def CS.nx (l : List Int) (c : CS) : CS:=⟨bI l c.i,bHash c.h⟩
def CS.to (l : List Int) (c : CS) (n : Int) : Int:=bX l c.i c.h % n
def CS.Ok (l : List Int) (c : CS) : Prop:=c.i ≤ l.length
theorem CS.Ok.nx {l : List Int} {c : CS} (h : c.Ok l) : (c.nx l).Ok l:=bI_le h
theorem CS.to_le {l : List Int} {c : CS} {n : Int} (hn : 0 < n) : 0 ≤ c.to l n ∧ c.to l n < n:=⟨Int.emod_nonneg _ (by omega),Int.emod_lt_of_pos _ hn⟩
abbrev curS (l : List Int) (c : CS) : Ob:=⟨.own,Q8t,[byV .s l,I c.i,I c.h]⟩
theorem X6Y (l : List Int) (c : CS) (hl : l.length ≤ 1048576) (hc : c.Ok l) : GC PP Q4k [.ref 0 0] [curS l c] (I (bX l c.i c.h)) [curS l (c.nx l)]:=X6Z l c.i c.h hl hc
theorem Q2l (l : List Int) (c : CS) (hl : l.length ≤ 1048576) (hc : c.Ok l) (n : Int) (hn : 0 < n ∧ n ≤ 256) : GC PP Q6h [.ref 0 0,I n] [curS l c] (I (c.to l n)) [curS l (c.nx l)]:=by
 have q:=X6Y l c hl hc
 have hb:=bX_le l c.i c.h
 unfold CS.to
 generalize bX l c.i c.h = x at *
 generalize c.nx l = c' at *
 refine txg X0B Q5b 1 [] [] [4] rfl (by kernel_rfl) ?_
 simp -dsimp(disch:=first|exact om|fail)only[go_sem,simprocAttr,xE,xN,xC,xP,xA,xZ]
 refine callG' [0] q (by decide) lL lL lE lF ?_
 simp -dsimp(disch:=first|exact om|fail)only[go_sem,simprocAttr,xE,xN,xC,xP,xA,xZ]
 exact RtG.nothing [some 0] lE (by decide) (by simp -dsimp(disch:=first|exact om|fail)only[go_sem,simprocAttr,xE,xN,xC,xP,xA,xZ,List.map_cons,List.map_nil]) lW
theorem X2S (l : List Int) (c : CS) (hl : l.length ≤ 1048576) (hc : c.Ok l) (n : Int) (hn : 0 < n ∧ n ≤ 256) : GC PP Q6X [.ref 0 0,I n] [curS l c] (Bo (decide (c.to l n = 0))) [curS l (c.nx l)]:=by
 have q:=Q2l l c hl hc n hn
 generalize c.to l n = x at *
 generalize c.nx l = c' at *
 refine txg X0S Q5H 1 [] [] [1] rfl (by kernel_rfl) ?_
 simp -dsimp(disch:=first|exact om|fail)only[go_sem,simprocAttr,xE,xN,xC,xP,xA,xZ]
 refine callG' [0] q (by decide) lL lL lE lF ?_
 simp -dsimp(disch:=first|exact om|fail)only[go_sem,simprocAttr,xE,xN,xC,xP,xA,xZ]
 exact RtG.nothing [some 0] lE (by decide) (by simp -dsimp(disch:=first|exact om|fail)only[go_sem,simprocAttr,xE,xN,xC,xP,xA,xZ,List.map_cons,List.map_nil]) lW
def nH (l : List Int) : Nat → Int
 | 0=>1975 + l.length
 | k + 1=>IntKind.wrap .i64 ((BitVec.ofInt IntKind.i64.bits (IntKind.wrap .i64 (IntKind.wrap .i64 (IntKind.wrap .i64 (nH l k * 73) + IntKind.wrap .i64 (l.getD k 0)) + 7)) &&& BitVec.ofInt IntKind.i64.bits 1073741823).toNat)
theorem nH_eq {l : List Int} {k : Nat} : IntKind.wrap .i64 ((BitVec.ofInt IntKind.i64.bits (IntKind.wrap .i64 (IntKind.wrap .i64 (IntKind.wrap .i64 (nH l k * 73) + IntKind.wrap .i64 (l.getD k 0)) + 7)) &&& BitVec.ofInt IntKind.i64.bits 1073741823).toNat) = nH l (k + 1):=(rfl)
def CS.new (l : List Int) : CS:=⟨0,nH l (min l.length 4000)⟩
theorem X8G (l : List Int) (hl : l.length ≤ 1048576) : GC PP Q4S [byV .s l] [] (.ref 0 0) [curS l (CS.new l)]:=by
 show GC PP Q4S [byV .s l] [] (.ref 0 0) [curO l 0 (nH l (min l.length 4000))]
 refine txg X2j Q6O 0 [] [] [] rfl (by kernel_rfl) ?_
 simp -dsimp(disch:=first|exact om|fail)only[go_sem,simprocAttr,xE,xN,xC,xP,xA,xZ]
 refine loopJ (fun k : Nat=>k ≤ l.length ∧ k ≤ 4000) (fun k=>⟨[(0,byV .s l),(3,I (nH l k)),(4,I k)],[]⟩) (fun k=>l.length - k) 0 (by omega) ?_ ?_
 ·exact StI.ren [] [] lE (by decide) lW (by simp -dsimp(disch:=first|exact om|fail)only[go_sem,simprocAttr,xE,xN,xC,xP,xA,xZ]; exact rfl)
 rintro k ⟨h1,h2⟩
 by_cases h : k < l.length
 ·by_cases h3 : k < 4000
  ·have e:=@nH_eq l k
   simp -dsimp(disch:=first|exact om|fail)only[go_sem,simprocAttr,xE,xN,xC,xP,xA,xZ,exists_eq_left',e]
   exact ⟨k + 1,by omega,by omega,StI.ren [] [] lE (by decide) lW lW⟩
  ·rw [show min l.length 4000 = k by omega]
   generalize nH l k = h0 at *
   simp -dsimp(disch:=first|exact om|fail)only[go_sem,simprocAttr,xE,xN,xC,xP,xA,xZ]
   exact RtG.nothing [some 0] lE (by decide) (by simp -dsimp(disch:=first|exact om|fail)only[go_sem,simprocAttr,xE,xN,xC,xP,xA,xZ,List.map_cons,List.map_nil]) lW
 ·rw [show min l.length 4000 = k by omega]
  generalize nH l k = h0 at *
  simp -dsimp(disch:=first|exact om|fail)only[go_sem,simprocAttr,xE,xN,xC,xP,xA,xZ]
  exact RtG.nothing [some 0] lE (by decide) (by simp -dsimp(disch:=first|exact om|fail)only[go_sem,simprocAttr,xE,xN,xC,xP,xA,xZ,List.map_cons,List.map_nil]) lW
def CS.adv (l : List Int) (c : CS) : Nat → CS
 | 0=>c
 | n + 1=>(c.adv l n).nx l
theorem CS.Ok.adv {l : List Int} {c : CS} (h : c.Ok l) : ∀ {n : Nat},(c.adv l n).Ok l
 | 0=>h
 | n + 1=>(CS.Ok.adv h (n:=n)).nx
theorem CS.new_ok (l : List Int) : (CS.new l).Ok l:=Nat.zero_le _
theorem Q0j (a b : Rat) : a < b ∨ b ≤ a:=by
 by_cases h : b ≤ a
 ·exact .inr h
 ·exact .inl (Rat.not_le.1 h)
def sm : Nat → (Nat → Rat) → Rat
 | 0,_=>0
 | n + 1,f=>sm n f + f n
theorem Q0e {n : Nat} {f g : Nat → Rat} (h : ∀ j,j < n → f j = g j) : sm n f = sm n g:=by
 induction n with
 | zero=>rfl
 | succ n ih=>unfold sm; rw [ih fun j hj=>h j (by omega),h n (by omega)]
theorem Q8W {n : Nat} {f g : Nat → Rat} : sm n (fun j=>f j + g j) = sm n f + sm n g:=by
 induction n with
 | zero=>unfold sm; grind
 | succ n ih=>unfold sm; rw [ih]; grind
theorem X2y {n : Nat} {f g : Nat → Rat} : sm n (fun j=>f j - g j) = sm n f - sm n g:=by
 induction n with
 | zero=>unfold sm; grind
 | succ n ih=>unfold sm; rw [ih]; grind
theorem X1e {n : Nat} {a : Rat} {f : Nat → Rat} : sm n (fun j=>a * f j) = a * sm n f:=by
 induction n with
 | zero=>unfold sm; grind
 | succ n ih=>unfold sm; rw [ih]; grind
theorem Q8A {n : Nat} {a : Rat} {f : Nat → Rat} : sm n (fun j=>f j * a) = sm n f * a:=by
 induction n with
 | zero=>unfold sm; grind
 | succ n ih=>unfold sm; rw [ih]; grind
theorem X9a {n : Nat} {f : Nat → Rat} : sm n (fun j=>-f j) = -sm n f:=by
 induction n with
 | zero=>unfold sm; grind
 | succ n ih=>unfold sm; rw [ih]; grind
theorem Q0Y {n : Nat} {f : Nat → Rat} (h : ∀ j,j < n → f j = 0) : sm n f = 0:=by
 induction n with
 | zero=>rfl
 | succ n ih=>unfold sm; rw [ih fun j hj=>h j (by omega),h n (by omega)]; grind
theorem Q4n {n k : Nat} {f : Nat → Rat} (hk : k < n) (h : ∀ j,j < n → j ≠ k → f j = 0) : sm n f = f k:=by
 induction n with
 | zero=>omega
 | succ n ih =>
  unfold sm
  by_cases e : k = n
  ·subst e; rw [Q0Y fun j hj=>h j (by omega) (by omega)]; grind
  ·rw [ih (by omega) fun j hj hne=>h j (by omega) hne,h n (by omega) (fun q=>e q.symm)]; grind
theorem X4r {n k : Nat} {a : Rat} (hk : k < n) : sm n (fun j=>if j = k then a else 0) = a:=by
 rw [Q4n hk (fun j _ hne=>if_neg hne),if_pos rfl]
theorem sm_le {n : Nat} {f g : Nat → Rat} (h : ∀ j,j < n → f j ≤ g j) : sm n f ≤ sm n g:=by
 induction n with
 | zero=>unfold sm; grind
 | succ n ih=>unfold sm; have:=ih fun j hj=>h j (by omega); have:=h n (by omega); grind
theorem Q9U {n : Nat} {f : Nat → Rat} (h : ∀ j,j < n → 0 ≤ f j) : 0 ≤ sm n f:=by
 have:=sm_le (f:=fun _=>0) (g:=f) h
 rwa [Q0Y fun _ _=>rfl] at this
theorem X1f {n : Nat} {f : Nat → Rat} (h : ∀ j,j < n → 0 ≤ f j) (e : sm n f = 0) : ∀ j,j < n → f j = 0:=by
 induction n with
 | zero=>intro j hj; omega
 | succ n ih =>
  unfold sm at e
  have h1:=Q9U (n:=n) (f:=f) fun j hj=>h j (by omega)
  have h2:=h n (by omega)
  have h3 : sm n f = 0:=by grind
  intro j hj
  by_cases q : j = n
  ·subst q; grind
  ·exact ih (fun j hj=>h j (by omega)) h3 j (by omega)
theorem X5T {n m : Nat} {f : Nat → Nat → Rat} : sm n (fun i=>sm m (fun j=>f i j)) = sm m (fun j=>sm n (fun i=>f i j)):=by
 induction n with
 | zero=>show (0 : Rat) = sm m (fun j=>0); rw [Q0Y fun _ _=>rfl]
 | succ n ih =>
  show sm n _ + sm m _ = sm m (fun j=>sm n (fun i=>f i j) + f n j)
  rw [ih,Q8W]
theorem X1I {n d : Nat} {f : Nat → Rat} : sm (n + d) f = sm n f + sm d (fun j=>f (n + j)):=by
 induction d with
 | zero=>show sm n f = sm n f + 0; grind
 | succ d ih=>show sm (n + d) f + f (n + d) = sm n f + (sm d _ + f (n + d)); rw [ih]; grind
def Pos (L : Nat) (v : Nat → Rat) : Prop:=∃ l,l < L ∧ 0 < v l ∧ ∀ k,k < l → v k = 0
def Nul (L : Nat) (v : Nat → Rat) : Prop:=∀ l,l < L → v l = 0
def Nng (L : Nat) (v : Nat → Rat) : Prop:=Pos L v ∨ Nul L v
theorem Pos.congr {L : Nat} {u v : Nat → Rat} (h : Pos L u) (e : ∀ l,l < L → u l = v l) : Pos L v:=by
 obtain ⟨l,h1,h2,h3⟩:=h
 exact ⟨l,h1,by rw [← e l h1]; exact h2,fun k hk=>by rw [← e k (by omega)]; exact h3 k hk⟩
theorem Pos.not_nul {L : Nat} {v : Nat → Rat} (h : Pos L v) : ¬ Nul L v:=by
 obtain ⟨l,h1,h2,_⟩:=h
 intro h; have:=h l h1; grind
theorem Pos.add {L : Nat} {u v : Nat → Rat} (h : Pos L u) (g : Pos L v) : Pos L (fun l=>u l + v l):=by
 obtain ⟨l,h1,h2,h3⟩:=h
 obtain ⟨k,g1,g2,g3⟩:=g
 rcases Nat.lt_trichotomy l k with hlk | rfl | hlk
 ·exact ⟨l,h1,by have:=g3 l hlk; grind,fun i hi=>by have:=h3 i hi; have:=g3 i (by omega); grind⟩
 ·exact ⟨l,h1,by grind,fun i hi=>by have:=h3 i hi; have:=g3 i hi; grind⟩
 ·exact ⟨k,g1,by have:=h3 k hlk; grind,fun i hi=>by have:=h3 i (by omega); have:=g3 i hi; grind⟩
theorem Pos.add_nul {L : Nat} {u v : Nat → Rat} (h : Pos L u) (g : Nul L v) : Pos L (fun l=>u l + v l) :=
 h.congr fun l hl=>by have:=g l hl; grind
theorem Nng.add {L : Nat} {u v : Nat → Rat} (h : Nng L u) (g : Nng L v) : Nng L (fun l=>u l + v l):=by
 rcases h with h | h <;> rcases g with g | g
 ·exact .inl (h.add g)
 ·exact .inl (h.add_nul g)
 ·exact .inl ((g.add_nul h).congr fun l _=>by grind)
 ·exact .inr fun l hl=>by have:=h l hl; have:=g l hl; grind
theorem Pos.smul {L : Nat} {a : Rat} {v : Nat → Rat} (ha : 0 < a) (h : Pos L v) : Pos L (fun l=>v l * a):=by
 obtain ⟨l,h1,h2,h3⟩:=h
 exact ⟨l,h1,Rat.mul_pos h2 ha,fun k hk=>by show v k * a = 0; rw [h3 k hk,Rat.zero_mul]⟩
theorem Pos.of_smul {L : Nat} {a : Rat} {v : Nat → Rat} (ha : 0 < a) (h : Pos L (fun l=>v l * a)) : Pos L v:=by
 obtain ⟨l,h1,h2,h3⟩:=h
 refine ⟨l,h1, ?_,fun k hk=>?_⟩
 ·rcases Q0j 0 (v l) with h | h
  ·exact h
  ·exfalso
   have : v l * a ≤ 0:=by
    have:=Rat.mul_nonneg (a:=-v l) (b:=a) (by grind) (by grind)
    grind
   grind
 ·have:=h3 k hk
  rcases Rat.mul_eq_zero.1 this with h | h
  ·exact h
  ·grind
theorem X3J {L : Nat} {v : Nat → Rat} (h : ¬ Pos L v) : Nng L (fun l=>-v l):=by
 by_cases hz : Nul L v
 ·exact .inr fun l hl=>by have:=hz l hl; grind
 ·have : ∃ l,l < L ∧ v l ≠ 0:=Classical.byContradiction fun q=>hz fun l hl=>Classical.byContradiction fun p=>q ⟨l,hl,p⟩
  obtain ⟨l,h1,h2,h3⟩ : ∃ l,l < L ∧ v l ≠ 0 ∧ ∀ k,k < l → v k = 0:=by
   obtain ⟨l0,g1,g2⟩:=this
   induction l0 using Nat.strongRecOn with
   | _ l0 ih =>
    by_cases q : ∃ k,k < l0 ∧ v k ≠ 0
    ·obtain ⟨k,q1,q2⟩:=q
     exact ih k q1 (by omega) q2
    ·exact ⟨l0,g1,g2,fun k hk=>Classical.byContradiction fun p=>q ⟨k,hk,p⟩⟩
  refine .inl ⟨l,h1, ?_,fun k hk=>by have:=h3 k hk; grind⟩
  rcases Q0j 0 (v l) with p | p
  ·exact absurd ⟨l,h1,p,h3⟩ h
  ·grind
theorem Pos.asymm {L : Nat} {v : Nat → Rat} (h : Pos L v) : ¬ Pos L (fun l=>-v l):=by
 intro g
 have:=(h.add g).not_nul
 exact this fun l _=>by grind
theorem Nng.not_pos {L : Nat} {v : Nat → Rat} (h : Nng L (fun l=>-v l)) : ¬ Pos L v:=by
 intro g
 rcases h with h | h
 ·exact g.asymm h
 ·exact g.not_nul fun l hl=>by have:=h l hl; grind
theorem Pos.some {L : Nat} {f : Nat → Nat → Rat} : ∀ {n : Nat},Pos L (fun l=>sm n (fun j=>f l j)) → ∃ j,j < n ∧ Pos L (fun l=>f l j)
 | 0,h=>by
  obtain ⟨l,h1,h2,_⟩:=h
  have : (0 : Rat) < 0:=h2
  grind
 | n + 1,h=>by
  by_cases q : Pos L (fun l=>f l n)
  ·exact ⟨n,by omega,q⟩
  ·have h1:=X3J q
   by_cases p : Pos L (fun l=>sm n (fun j=>f l j))
   ·obtain ⟨j,hj,e⟩:=p.some
    exact ⟨j,by omega,e⟩
   ·have h2:=X3J p
    refine absurd h (Nng.not_pos ?_)
    rcases h2.add h1 with h | h
    ·exact .inl (h.congr fun l _=>by show -sm n _ + -f l n = -(sm n _ + f l n); grind)
    ·exact .inr fun l hl=>by have:=h l hl; show -(sm n _ + f l n) = 0; grind
structure Tb where
 A : Nat → Nat → Rat
 β : Nat → Nat
def Sol (m N : Nat) (A : Nat → Nat → Rat) (x : Nat → Rat) : Prop:=∀ i,i < m → sm N (fun j=>A i j * x j) = A i N
def Hom (m N : Nat) (A : Nat → Nat → Rat) (x : Nat → Rat) : Prop:=∀ i,i < m → sm N (fun j=>A i j * x j) = 0
structure Tab (m N : Nat) (t : Tb) : Prop where
 bl : ∀ i,i < m → t.β i < N
 un : ∀ i k,i < m → k < m → t.A i (t.β k) = if i = k then 1 else 0
def Bas (m : Nat) (t : Tb) (j : Nat) : Prop:=∃ i,i < m ∧ t.β i = j
theorem Tab.inj {m N : Nat} {t : Tb} (h : Tab m N t) {i k : Nat} (hi : i < m) (hk : k < m) (e : t.β i = t.β k) : i = k:=by
 have h1:=h.un i i hi hi
 rw [e,h.un i k hi hk] at h1
 by_cases q : i = k
 ·exact q
 ·rw [if_neg q,if_pos rfl] at h1; grind
def Tb.q (t : Tb) (r k j : Nat) : Rat:=t.A r j / t.A r k
def Tb.piv (t : Tb) (r k : Nat) : Tb:=⟨fun i j=>if i = r then t.q r k j else t.A i j - t.A i k * t.q r k j,fun i=>if i = r then k else t.β i⟩
theorem X7u {a : Rat} (h : a ≠ 0) : a / a = 1:=by rw [Rat.div_def,Rat.mul_inv_cancel a h]
theorem Q9L {a : Rat} : (0 : Rat) / a = 0:=by rw [Rat.div_def,Rat.zero_mul]
theorem Tab.piv {m N : Nat} {t : Tb} (h : Tab m N t) {r k : Nat} (hr : r < m) (hk : k < N) (h0 : t.A r k ≠ 0) : Tab m N (t.piv r k):=by
 have hqk : t.q r k k = 1:=X7u h0
 refine ⟨fun i hi=>?_,fun i l hi hl=>?_⟩
 ·show (if i = r then k else t.β i) < N
  split
  ·exact hk
  ·exact h.bl i hi
 ·show (if i = r then t.q r k (if l = r then k else t.β l) else t.A i (if l = r then k else t.β l) - t.A i k * t.q r k (if l = r then k else t.β l)) = _
  by_cases hlr : l = r
  ·rw [if_pos hlr,hqk]
   by_cases hir : i = r
   ·rw [if_pos hir,if_pos (by omega)]
   ·rw [if_neg hir,if_neg (by omega)]; grind
  ·rw [if_neg hlr]
   have hq : t.q r k (t.β l) = 0:=by unfold Tb.q; rw [h.un r l hr hl,if_neg (fun e=>hlr e.symm),Q9L]
   rw [hq]
   by_cases hir : i = r
   ·rw [if_pos hir,if_neg (by omega)]
   ·rw [if_neg hir,h.un i l hi hl]; grind
theorem X9O {N : Nat} {a b x : Nat → Rat} {f : Rat} : sm N (fun j=>(a j - f * b j) * x j) = sm N (fun j=>a j * x j) - f * sm N (fun j=>b j * x j):=by
 rw [← X1e,← X2y]
 exact Q0e fun j _=>by grind
theorem q_sum {t : Tb} {r k N : Nat} {x : Nat → Rat} : sm N (fun j=>t.q r k j * x j) = sm N (fun j=>t.A r j * x j) / t.A r k:=by
 rw [Rat.div_def,← Q8A]
 exact Q0e fun j _=>by unfold Tb.q; rw [Rat.div_def]; grind
theorem X6v {m N : Nat} {t : Tb} {r k : Nat} (hr : r < m) (h0 : t.A r k ≠ 0) {x c : Nat → Rat} :
  (∀ i,i < m → sm N (fun j=>t.A i j * x j) = c i) ↔ ∀ i,i < m → sm N (fun j=>(t.piv r k).A i j * x j) = if i = r then c r / t.A r k else c i - t.A i k * (c r / t.A r k):=by
 have er : sm N (fun j=>(t.piv r k).A r j * x j) = sm N (fun j=>t.A r j * x j) / t.A r k:=by
  rw [← q_sum]; exact Q0e fun j _=>by show (if r = r then _ else _) * _ = _; rw [if_pos rfl]
 have eo : ∀ i,i ≠ r → sm N (fun j=>(t.piv r k).A i j * x j) = sm N (fun j=>t.A i j * x j) - t.A i k * (sm N (fun j=>t.A r j * x j) / t.A r k):=by
  intro i hi
  rw [← q_sum,← X9O]; exact Q0e fun j _=>by show (if i = r then _ else _) * _ = _; rw [if_neg hi]
 constructor
 ·intro h i hi
  by_cases e : i = r
  ·subst e; rw [if_pos rfl,er,h i hi]
  ·rw [if_neg e,eo i e,h i hi,h r hr]
 ·intro h
  have hrr : sm N (fun j=>t.A r j * x j) = c r:=by
   have:=h r hr
   rw [if_pos rfl,er,Rat.div_def,Rat.div_def] at this
   have h1 : sm N (fun j=>t.A r j * x j) * (t.A r k)⁻¹ * t.A r k = c r * (t.A r k)⁻¹ * t.A r k:=by rw [this]
   rwa [Rat.mul_assoc,Rat.inv_mul_cancel _ h0,Rat.mul_one,Rat.mul_assoc,Rat.inv_mul_cancel _ h0,Rat.mul_one] at h1
  intro i hi
  by_cases e : i = r
  ·subst e; exact hrr
  ·have:=h i hi
   rw [if_neg e,eo i e,hrr] at this
   grind
theorem X6t {m N : Nat} {t : Tb} {r k : Nat} (hr : r < m) (h0 : t.A r k ≠ 0) {x : Nat → Rat} : Sol m N t.A x ↔ Sol m N (t.piv r k).A x:=by
 unfold Sol
 rw [X6v hr h0 (c:=fun i=>t.A i N)]
 exact Iff.rfl
theorem Y0a {m N : Nat} {t : Tb} {r k : Nat} (hr : r < m) (h0 : t.A r k ≠ 0) {x : Nat → Rat} : Hom m N t.A x ↔ Hom m N (t.piv r k).A x:=by
 unfold Hom
 rw [X6v hr h0 (c:=fun i=>0)]
 simp only [Q9L,Rat.mul_zero]
 constructor
 ·intro h i hi; rw [h i hi]; split <;> grind
 ·intro h i hi; rw [h i hi]; split <;> grind
def gain (m : Nat) (t : Tb) (c : Nat → Rat) (j : Nat) : Rat:=c j - sm m (fun i=>c (t.β i) * t.A i j)
def val (m N : Nat) (t : Tb) (c : Nat → Rat) : Rat:=sm m (fun i=>c (t.β i) * t.A i N)
theorem Q6w {m N : Nat} {t : Tb} (h : Tab m N t) {c : Nat → Rat} {j : Nat} (hb : Bas m t j) : gain m t c j = 0:=by
 obtain ⟨k,hk,rfl⟩:=hb
 unfold gain
 rw [Q4n hk (fun i hi hne=>by rw [h.un i k hi hk,if_neg hne,Rat.mul_zero]),h.un k k hk hk,if_pos rfl]
 grind
theorem X6u {m N : Nat} {t : Tb} (h : Tab m N t) {r k : Nat} (hr : r < m) (h0 : t.A r k ≠ 0) {c : Nat → Rat} (j : Nat) :
  sm m (fun i=>c ((t.piv r k).β i) * (t.piv r k).A i j) = sm m (fun i=>c (t.β i) * t.A i j) + gain m t c k * t.q r k j:=by
 have e : ∀ i,i < m → c ((t.piv r k).β i) * (t.piv r k).A i j = (c (t.β i) * t.A i j - c (t.β i) * t.A i k * t.q r k j) + (if i = r then c k * t.q r k j else 0):=by
  intro i hi
  show c (if i = r then k else t.β i) * (if i = r then t.q r k j else t.A i j - t.A i k * t.q r k j) = _
  by_cases q : i = r
  ·subst q
   rw [if_pos rfl,if_pos rfl,if_pos rfl]
   have : t.A i j = t.A i k * t.q i k j:=by
    unfold Tb.q
    rw [Rat.div_def,Rat.mul_comm (t.A i j),← Rat.mul_assoc,Rat.mul_inv_cancel _ h0,Rat.one_mul]
   grind
  ·rw [if_neg q,if_neg q,if_neg q]; grind
 rw [Q0e e,Q8W,X2y,X4r hr,Q8A]
 unfold gain
 grind
theorem X4C {m N : Nat} {t : Tb} (h : Tab m N t) {r k : Nat} (hr : r < m) (h0 : t.A r k ≠ 0) {c : Nat → Rat} (j : Nat) :
  gain m (t.piv r k) c j = gain m t c j - gain m t c k * t.q r k j:=by
 show c j - sm m (fun i=>c ((t.piv r k).β i) * (t.piv r k).A i j) = _
 rw [X6u h hr h0]
 unfold gain
 grind
theorem X9Z {m N : Nat} {t : Tb} (h : Tab m N t) {r k : Nat} (hr : r < m) (h0 : t.A r k ≠ 0) {c : Nat → Rat} :
  val m N (t.piv r k) c = val m N t c + gain m t c k * t.q r k N:=X6u h hr h0 N
theorem X6C {m N : Nat} {t : Tb} {c x d : Nat → Rat} (h : ∀ i,i < m → sm N (fun j=>t.A i j * x j) = d i) :
  sm N (fun j=>c j * x j) = sm m (fun i=>c (t.β i) * d i) + sm N (fun j=>gain m t c j * x j):=by
 have e : sm N (fun j=>gain m t c j * x j) = sm N (fun j=>c j * x j) - sm N (fun j=>sm m (fun i=>c (t.β i) * t.A i j * x j)):=by
  rw [← X2y]
  refine Q0e fun j _=>?_
  unfold gain
  rw [Q8A]; grind
 rw [e,← X5T (f:=fun i j=>c (t.β i) * t.A i j * x j)]
 have e2 : sm m (fun i=>sm N (fun j=>c (t.β i) * t.A i j * x j)) = sm m (fun i=>c (t.β i) * d i):=by
  refine Q0e fun i hi=>?_
  rw [← h i hi,← X1e]
  exact Q0e fun j _=>by grind
 rw [e2]; grind
theorem X3H {m N : Nat} {t : Tb} {c x : Nat → Rat} (h : Sol m N t.A x) : sm N (fun j=>c j * x j) = val m N t c + sm N (fun j=>gain m t c j * x j):=X6C h
theorem X6D {m N : Nat} {t : Tb} {c x : Nat → Rat} (h : Hom m N t.A x) : sm N (fun j=>c j * x j) = sm N (fun j=>gain m t c j * x j):=by
 rw [X6C h,Q0Y fun i _=>Rat.mul_zero _]; grind
def pt (m N : Nat) (t : Tb) (j : Nat) : Rat:=sm m (fun i=>if t.β i = j then t.A i N else 0)
theorem X9c {m N : Nat} {t : Tb} (h : Tab m N t) {i : Nat} (hi : i < m) : pt m N t (t.β i) = t.A i N:=by
 unfold pt
 rw [Q4n hi (fun k hk hne=>if_neg fun e=>hne (h.inj hk hi e)),if_pos rfl]
theorem X2F {m N : Nat} {t : Tb} {j : Nat} (h : ¬ Bas m t j) : pt m N t j = 0:=Q0Y fun i hi=>if_neg fun e=>h ⟨i,hi,e⟩
theorem X2g {m N : Nat} {t : Tb} (h : Tab m N t) {d : Nat → Rat} {i : Nat} (hi : i < m) : sm N (fun j=>t.A i j * sm m (fun k=>if t.β k = j then d k else 0)) = d i:=by
 have e : ∀ j,j < N → t.A i j * sm m (fun k=>if t.β k = j then d k else 0) = sm m (fun k=>if t.β k = j then t.A i (t.β k) * d k else 0):=by
  intro j _
  rw [← X1e]
  refine Q0e fun k _=>?_
  split
  ·rename_i q; rw [q]
  ·grind
 rw [Q0e e,X5T (f:=fun j k=>if t.β k = j then t.A i (t.β k) * d k else 0)]
 have e2 : ∀ k,k < m → sm N (fun j=>if t.β k = j then t.A i (t.β k) * d k else 0) = if i = k then d k else 0:=by
  intro k hk
  rw [Q4n (h.bl k hk) (fun j _ hne=>if_neg fun q=>hne q.symm),if_pos rfl,h.un i k hi hk]
  split <;> grind
 rw [Q0e e2,Q4n hi (fun k _ hne=>if_neg fun q=>hne q.symm),if_pos rfl]
theorem X1g {m N : Nat} {t : Tb} (h : Tab m N t) : Sol m N t.A (pt m N t):=fun i hi=>X2g h (d:=fun k=>t.A k N) hi
theorem Y3u {m N : Nat} {t : Tb} (h : Tab m N t) {c : Nat → Rat} : sm N (fun j=>c j * pt m N t j) = val m N t c:=by
 rw [X3H (X1g h),Q0Y,Rat.add_zero]
 intro j _
 by_cases hb : Bas m t j
 ·rw [Q6w h hb,Rat.zero_mul]
 ·rw [X2F hb,Rat.mul_zero]
def ray (m : Nat) (t : Tb) (s j : Nat) : Rat:=(if j = s then 1 else 0) - sm m (fun i=>if t.β i = j then t.A i s else 0)
theorem X3D {m N : Nat} {t : Tb} (h : Tab m N t) {s : Nat} (hs : s < N) : Hom m N t.A (ray m t s):=by
 intro i hi
 have e : sm N (fun j=>t.A i j * ray m t s j) = sm N (fun j=>if j = s then t.A i s else 0) - sm N (fun j=>t.A i j * sm m (fun k=>if t.β k = j then t.A k s else 0)):=by
  rw [← X2y]
  refine Q0e fun j _=>?_
  unfold ray
  split
  ·rename_i q; subst q; grind
  ·grind
 rw [e,X2g h (d:=fun k=>t.A k s) hi,X4r hs]; grind
theorem X6m {m N : Nat} {t : Tb} (h : Tab m N t) {s : Nat} (hs : s < N) {c : Nat → Rat} (hn : ¬ Bas m t s) : sm N (fun j=>c j * ray m t s j) = gain m t c s:=by
 rw [X6D (X3D h hs),Q4n hs]
 ·unfold ray
  rw [if_pos rfl,Q0Y fun i hi=>if_neg fun e=>hn ⟨i,hi,e⟩]; grind
 ·intro j _ hne
  by_cases hb : Bas m t j
  ·rw [Q6w h hb,Rat.zero_mul]
  ·unfold ray
   rw [if_neg hne,Q0Y fun i hi=>if_neg fun e=>hb ⟨i,hi,e⟩]; grind
theorem X3E {m N : Nat} {t : Tb} (h : Tab m N t) {s i : Nat} (hi : i < m) (hne : t.β i ≠ s) : ray m t s (t.β i) = -t.A i s:=by
 unfold ray
 rw [if_neg hne,Q4n hi (fun k hk hk'=>if_neg fun e=>hk' (h.inj hk hi e)),if_pos rfl]; grind
theorem X4B {m : Nat} {t : Tb} {s : Nat} (hn : ¬ Bas m t s) : ray m t s s = 1:=by
 unfold ray
 rw [if_pos rfl,Q0Y fun i hi=>if_neg fun e=>hn ⟨i,hi,e⟩]; grind
theorem X3C {m : Nat} {t : Tb} {s j : Nat} (hne : j ≠ s) (hn : ¬ Bas m t j) : ray m t s j = 0:=by
 unfold ray
 rw [if_neg hne,Q0Y fun i hi=>if_neg fun e=>hn ⟨i,hi,e⟩]; grind
end Go.Proofs.Ytchlpclgkhggeaa