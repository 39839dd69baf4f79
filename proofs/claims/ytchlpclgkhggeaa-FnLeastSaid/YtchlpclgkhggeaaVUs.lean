/- part of the proof -/
import Derived.Test.YtchlpclgkhggeaaVSa
import Derived.Test.YtchlpclgkhggeaaVUp
import Derived.Test.YtchlpclgkhggeaaVUr
import Derived.Test.YtchlpclgkhggeaaVKa
namespace Go.Proofs.Ytchlpclgkhggeaa
open Go Go.RowKit
set_option maxRecDepth 100000
set_option maxHeartbeats 4000000
set_option linter.unusedVariables false
set_option linter.unusedSimpArgs false
def Fl.ts : Fl → Fl
 | .b=>.s
 | f=>f
mutual
def V.ts : V → V
 | .ptr f cs=>.ptr f.ts (V.tsL cs)
 | .sl f sz n cs=>.sl f.ts sz n (V.tsL cs)
 | .agg vs=>.agg (V.tsL vs)
 | .tup vs=>.tup (V.tsL vs)
 | .fn x fs cs=>.fn x (V.tsL fs) (V.tsL cs)
 | v=>v
def V.tsL : List V → List V
 | []=>[]
 | v :: vs=>V.ts v :: V.tsL vs
end
theorem X0Z : ∀ {vs : List V},(V.tsL vs).length = vs.length
 | []=>rfl
 | v :: vs=>by rw [V.tsL,List.length_cons,List.length_cons,X0Z]
theorem Flg.ts {S B : BS} {f : Fl} {b : Nat} {X : Prop} {u us : List Nat} (h : Flg f S (fun _=>False) b X u us) : Flg f.ts S B b X u us:=by
 cases f
 ·exact h
 ·exact ⟨h.1.elim id False.elim,h.2⟩
 ·exact h
theorem X9s (f : Fl) : Flb f (fun _=>False) = fun _=>False:=by cases f <;> rfl
section
variable {w : World} {S B : BS}
mutual
theorem Rep.to_ts : ∀ (κ : KM) (B : BS) (v : V) (x : Value) (us : List Nat),Rep w S (fun _=>False) κ v x us → Rep w S B κ v.ts x us
 | κ,B,.any,x,us,h=>h
 | κ,B,.lit _,x,us,h=>h
 | κ,B,.emp,x,us,h=>h
 | κ,B,.ptr f cs,x,us,⟨b,o,u,h1,h2,h3⟩=>by
  rw [X9s] at h2
  exact ⟨b,o,u,h1,Mem.to_ts [] _ cs b o u h2,h3.ts⟩
 | κ,B,.sl f sz n cs,x,us,⟨a,c,h1,h2,h3,h4,h5⟩=>by
  refine ⟨a,c,h1,h2,h3,by rw [X0Z]; exact h4, ?_⟩
  rcases h5 with ⟨h5,h6⟩ | ⟨b,o,u,e,h6,h7⟩
  ·exact .inl ⟨h5,h6.1,fun h=>h6.2 (by cases f <;> first | rfl | cases h)⟩
  ·rw [X9s] at h6
   exact .inr ⟨b,o,u,e,Mem.to_ts [] _ cs b o u h6,h7.ts⟩
 | κ,B,.agg vs,x,us,⟨xs,h1,h2⟩=>⟨xs,h1,RepL.to_ts κ B vs _ us h2⟩
 | κ,B,.tup vs,x,us,⟨xs,h1,h2⟩=>⟨xs,h1,RepL.to_ts κ B vs _ us h2⟩
 | κ,B,.fn _ fs cs,x,us,⟨h0,ys,zs,h1,h2,h3⟩=>⟨h0,ys,zs,h1,RepL.to_ts κ B fs _ [] h2,RepL.to_ts κ B cs _ [] h3⟩
 | κ,B,.ref _ _,x,us,h=>h
 | κ,B,.rsl _ _ _ _,x,us,h=>h
 | κ,B,.mp _,x,us,h=>h
theorem RepL.to_ts : ∀ (κ : KM) (B : BS) (vs : List V) (xs : List Value) (us : List Nat),RepL w S (fun _=>False) κ vs xs us → RepL w S B κ (V.tsL vs) xs us
 | κ,B,[],xs,us,h=>h
 | κ,B,v :: vs,xs,us,⟨x,xs',u1,u2,h1,h2,h3,h4⟩=>⟨x,xs',u1,u2,h1,h2,Rep.to_ts κ B v x u1 h3,RepL.to_ts κ B vs xs' u2 h4⟩
theorem Mem.to_ts : ∀ (κ : KM) (B : BS) (cs : List V) (b o : Nat) (us : List Nat),Mem w S (fun _=>False) κ cs b o us → Mem w S B κ (V.tsL cs) b o us
 | κ,B,[],b,o,us,h=>h
 | κ,B,v :: vs,b,o,us,⟨x,u1,u2,h1,h2,h3,h4⟩=>⟨x,u1,u2,h1,h2,Rep.to_ts κ B v x u1 h3,Mem.to_ts κ B vs b (o + 1) u2 h4⟩
end
mutual
theorem Rep.noB (B' : BS) : ∀ (κ : KM) (v : V) (x : Value) (us : List Nat),v.onlyS → Rep w S B κ v x us → Rep w S B' κ v x us
 | κ,.any,x,us,_,h=>h
 | κ,.lit _,x,us,_,h=>h
 | κ,.emp,x,us,_,h=>h
 | κ,.ptr .s cs,x,us,ho,h=>h
 | κ,.sl .s sz n cs,x,us,ho,h=>h
 | κ,.agg vs,x,us,ho,⟨xs,h1,h2⟩=>⟨xs,h1,RepL.noB B' κ vs _ us ho h2⟩
 | κ,.tup vs,x,us,ho,⟨xs,h1,h2⟩=>⟨xs,h1,RepL.noB B' κ vs _ us ho h2⟩
 | κ,.ref _ _,x,us,_,h=>h
 | κ,.rsl _ _ _ _,x,us,_,h=>h
 | κ,.mp _,x,us,_,h=>h
theorem RepL.noB (B' : BS) : ∀ (κ : KM) (vs : List V) (xs : List Value) (us : List Nat),V.onlySL vs → RepL w S B κ vs xs us → RepL w S B' κ vs xs us
 | κ,[],xs,us,_,h=>h
 | κ,v :: vs,xs,us,ho,⟨x,xs',u1,u2,h1,h2,h3,h4⟩=>⟨x,xs',u1,u2,h1,h2,Rep.noB B' κ v x u1 ho.1 h3,RepL.noB B' κ vs xs' u2 ho.2 h4⟩
end
end
theorem PB.shared {P : Program} {f : FuncId} {args : List V} {r : V} {objs : List Ob} (h : PB P f args r objs) (ha : V.onlySL args) (ho : ∀ ob ∈ objs,ob.st = .own) :
  PC P f args r.ts (objs.map fun ob=>{ ob with cs:=V.tsL ob.cs }):=by
 refine ⟨h.1,fun w S B xs hb hrep=>?_⟩
 refine (h.2 w S (fun _=>False) xs (fun b hx=>hb b (.inl (hx.elim id False.elim))) (RepL.noB _ [] args xs [] ha hrep)).mono ?_
 rintro e w' ⟨x,rfl,hbl,κ,S',uss,h1,h2,h3,h4,h5,h6,h7,h8,h9⟩
 refine ⟨x,rfl,hbl,κ,S',uss,h1,h2,Rep.to_ts κ _ r x [] h3,by simpa using h4, ?_,by simpa using h6, ?_,h8,h9⟩
 ·intro i ob a st
  rw [List.getElem?_map] at a
  cases e : objs[i]? with
  | none=>rw [e] at a; simp at a
  | some ob'=>exact h5 i ob' e (.inl (ho ob' (List.mem_of_getElem? e)))
 ·intro i ob k us a b c
  rw [List.getElem?_map] at a
  cases e : objs[i]? with
  | none=>rw [e] at a; simp at a
  | some ob' =>
   rw [e] at a
   simp only [Option.map_some,Option.some.injEq] at a
   subst a
   have q:=h7 i ob' k us e b c
   have ho2:=ho _ (List.mem_of_getElem? e)
   obtain ⟨st,ty,cs⟩:=ob'
   simp only at ho2
   subst ho2
   rcases q with ⟨q1,q2,q3⟩ | ⟨b',arr,u,q1,q2,q3,q4⟩
   ·have q2 : cs = []:=q2
    subst q2
    exact .inl ⟨q1,rfl,q3⟩
   ·exact .inr ⟨b',arr,u,q1,q2,q3,Mem.to_ts κ _ cs b' 0 u q4⟩
mutual
def V.noS : V → Prop
 | .any | .lit _ | .emp=>True
 | .ptr .u cs=>V.noSL cs
 | .sl .u _ _ cs=>V.noSL cs
 | .agg vs=>V.noSL vs
 | .tup vs=>V.noSL vs
 | .rsl _ _ _ _ | .ref _ _ | .mp _=>True
 | _=>False
def V.noSL : List V → Prop
 | []=>True
 | v :: vs=>V.noS v ∧ V.noSL vs
end
section
variable {w : World} {S : BS}
mutual
theorem Rep.noS (S' : BS) : ∀ (B B' : BS) (κ : KM) (v : V) (x : Value) (us : List Nat),v.noS → Rep w S B κ v x us → Rep w S' B' κ v x us
 | B,B',κ,.any,x,us,_,h=>h
 | B,B',κ,.lit _,x,us,_,h=>h
 | B,B',κ,.emp,x,us,_,h=>h
 | B,B',κ,.ptr .u cs,x,us,ho,⟨b,o,u,h1,h2,h3⟩=>⟨b,o,u,h1,Mem.noS S' _ _ [] cs b o u ho h2,h3⟩
 | B,B',κ,.sl .u sz n cs,x,us,ho,⟨a,c,h1,h2,h3,h4,h5⟩=>by
  refine ⟨a,c,h1,h2,h3,h4, ?_⟩
  rcases h5 with h5 | ⟨b,o,u,e,h6,h7⟩
  ·exact .inl h5
  ·exact .inr ⟨b,o,u,e,Mem.noS S' _ _ [] cs b o u ho h6,h7⟩
 | B,B',κ,.agg vs,x,us,ho,⟨xs,h1,h2⟩=>⟨xs,h1,RepL.noS S' B B' κ vs _ us ho h2⟩
 | B,B',κ,.tup vs,x,us,ho,⟨xs,h1,h2⟩=>⟨xs,h1,RepL.noS S' B B' κ vs _ us ho h2⟩
 | B,B',κ,.ref _ _,x,us,_,h=>h
 | B,B',κ,.rsl _ _ _ _,x,us,_,h=>h
 | B,B',κ,.mp _,x,us,_,h=>h
theorem RepL.noS (S' : BS) : ∀ (B B' : BS) (κ : KM) (vs : List V) (xs : List Value) (us : List Nat),V.noSL vs → RepL w S B κ vs xs us → RepL w S' B' κ vs xs us
 | B,B',κ,[],xs,us,_,h=>h
 | B,B',κ,v :: vs,xs,us,ho,⟨x,xs',u1,u2,h1,h2,h3,h4⟩=>⟨x,xs',u1,u2,h1,h2,Rep.noS S' B B' κ v x u1 ho.1 h3,RepL.noS S' B B' κ vs xs' u2 ho.2 h4⟩
theorem Mem.noS (S' : BS) : ∀ (B B' : BS) (κ : KM) (cs : List V) (b o : Nat) (us : List Nat),V.noSL cs → Mem w S B κ cs b o us → Mem w S' B' κ cs b o us
 | B,B',κ,[],b,o,us,_,h=>h
 | B,B',κ,v :: vs,b,o,us,ho,⟨x,u1,u2,h1,h2,h3,h4⟩=>⟨x,u1,u2,h1,h2,Rep.noS S' B B' κ v x u1 ho.1 h3,Mem.noS S' B B' κ vs b (o + 1) u2 ho.2 h4⟩
end
end
theorem PC.lentO {P : Program} {f : FuncId} {args : List V} {r : V} {objs : List Ob} (h : PC P f args r objs) (ha : V.onlySL args) (hr : r.noS) (ho : ∀ ob ∈ objs,ob.st = .own ∧ V.noSL ob.cs) :
  PC P f (V.tbL args) r objs:=by
 refine ⟨h.1,fun w S B xs hb hrep=>?_⟩
 have hb' : ∀ b,(S b ∨ B b) ∨ False → b < w.heap.size:=fun b hx=>hb b (hx.elim id False.elim)
 refine (h.2 w (fun b=>S b ∨ B b) (fun _=>False) xs hb' (RepL.of_tb (fun _ h=>h) [] args xs [] ha hrep)).mono ?_
 rintro e w' ⟨x,rfl,hbl,κ,S',uss,h1,h2,h3,h4,h5,h6,h7,h8,h9⟩
 refine ⟨x,rfl,hbl,κ,S,uss,fun b hs=>hs,fun b hs=>.inl hs,Rep.noS S _ _ κ r x [] hr h3,h4,h5,h6, ?_,h8,fun b hb=>⟨(h9 b hb).1,(h9 b hb).2.1,fun hs=>(h9 b hb).2.2 (h1 b (.inl hs))⟩⟩
 intro i ob k us a b c
 have q:=h7 i ob k us a b c
 obtain ⟨st,ty,cs⟩:=ob
 obtain ⟨rfl,ho2⟩:=ho _ (List.mem_of_getElem? a)
 exact q.imp (fun h=>h) fun ⟨b',arr,u,q1,q2,q3,q4⟩=>⟨b',arr,u,q1,q2,q3,Mem.noS S _ _ κ cs b' 0 u ho2 q4⟩
theorem GC.lentO {f : FuncId} {args : List V} {r : V} {H1 : List Ob} (h : GC PP f args [] r H1) (ha : V.onlySL args) (hr : r.noS) (ho : ∀ ob ∈ H1,ob.st = .own ∧ V.noSL ob.cs) :
  GC PP f (V.tbL args) [] r H1:=(h.pc.lentO ha hr ho).gc
theorem X8P {l : List Int} : V.onlySL (byC l):=by
 induction l with
 | nil=>trivial
 | cons a l ih=>exact ⟨trivial,ih⟩
theorem Y4H {l : List Int} : V.tbL (byC l) = byC l:=by
 induction l with
 | nil=>rfl
 | cons a l ih=>show V.tb _ :: V.tbL (byC l) = _ :: byC l; rw [ih]; rfl
theorem Y0W {f : FuncId} {l : List Int} (h : PC PP f [byV .s l] (Bo true) []) (g : Fl) (hg : g ≠ .u) : PC PP f [byV g l] (Bo true) []:=by
 cases g with
 | u=>exact absurd rfl hg
 | s=>exact h
 | b =>
  have q:=h.lentO ⟨X8P,trivial⟩ trivial (by intro ob hob; cases hob)
  rw [show V.tbL [byV .s l] = [byV .b l] by show [V.sl .b 1 l.length (V.tbL (byC l))] = _; rw [Y4H]] at q
  exact q
theorem X2B {e : TypeId} (he : PP.underlying e = some (.int .u8)) : ∀ {n : Nat} {cs : List V},RdN PP e n cs → ∃ l : List Int,cs = byC l ∧ l.length = n
 | 0,_,.zero _=>⟨[],rfl,rfl⟩
 | n + 1,_,.succ _ _ vs ws h1 h2 h3=>by
  obtain ⟨m,rfl,_⟩:=Y3p he h1
  obtain ⟨l,rfl,hl⟩:=X2B he h3
  exact ⟨m :: l,rfl,by simp [hl]⟩
theorem X5M : PP.underlying Q3e = some (.slice X4g):=by kernel_rfl
theorem Y2F : PP.underlying X4g = some (.int .u8):=by kernel_rfl
theorem Y4F : PP.cellsOf X4g = 1:=by kernel_rfl
theorem X6l {v : V} (h : RdV PP Q3e v) : ∃ l : List Int,v = byV .b l ∧ l.length ≤ 9223372036854775807:=by
 obtain ⟨n,cs,e,hn,hr⟩:=X8x X5M (X9U (by intro fs; rw [X5M]; simp) h)
 obtain ⟨l,rfl,rfl⟩:=X2B Y2F hr
 simp only [List.cons.injEq,and_true] at e
 exact ⟨l,by rw [e,Y4F],hn⟩
theorem X9j {H : List Ob} {r : Rat} : Le H .b (pR .b r) (pR .b r):=.ptr _ _ _ _ ⟨rfl,rfl⟩ (.cons _ _ _ _ (.lit _) (.cons _ _ _ _ (.sl _ _ _ _ _ _ ⟨rfl,rfl⟩ LeL.lits) (.cons _ _ _ _ (.sl _ _ _ _ _ _ ⟨rfl,rfl⟩ LeL.lits) .nil)))
theorem X1V (x y : FQ) (hx : x.good = true) (hy : y.good = true) : PC PP Q4V [rV .s (qd x),rV .s (qd y)] (I (x.cmp y)) []:=by
 have h1:=X9h .s fls (qd x) (Q6t x)
 have h2:=X9h .s fls (qd y) (Q6t y)
 rw [X4A] at h1 h2
 have e : x.cmp y = cmpZ (x.num * y.den) (y.num * x.den):=rfl
 rw [e]
 obtain ⟨x,hx0⟩:=x
 obtain ⟨y,hy0⟩:=y
 cases x with
 | none=>cases hx
 | some r =>
  cases y with
  | none=>cases hy
  | some s =>
   have a1:=hx0 r rfl
   have a2:=hy0 s rfl
   show PC PP Q4V [rV .s (qd ⟨some r,hx0⟩),rV .s (qd ⟨some s,hy0⟩)] (I (cmpZ (r.num * s.den) (s.num * r.den))) []
   have h1 : PB PP Q4U [rV .s (qd ⟨some r,hx0⟩)] (pR .b r) []:=h1
   have h2 : PB PP Q4U [rV .s (qd ⟨some s,hy0⟩)] (pR .b s) []:=h2
   generalize qd ⟨some r,hx0⟩ = dx at *
   generalize qd ⟨some s,hy0⟩ = dy at *
   refine tx X2l Q6Q [] (by kernel_rfl) ?_
   simp -dsimp(disch:=first|exact om|fail)only[go_sem,simprocAttr,xE,xN,xC,xP,xA,xZ]
   refine callB' h1 lB lF ?_
   simp -dsimp(disch:=first|exact om|fail)only[go_sem,simprocAttr,xE,xN,xC,xP,xA,xZ]
   refine callB' h2 lB lF ?_
   simp -dsimp(disch:=first|exact om|fail)only[go_sem,simprocAttr,xE,xN,xC,xP,xA,xZ]
   refine callP (Q9w .b .b flb flb r s (by omega) (by omega) (by omega) (by omega)) (.cons _ _ _ _ X9j (.cons _ _ _ _ X9j .nil)) ?_
   simp -dsimp(disch:=first|exact om|fail)only[go_sem,simprocAttr,xE,xN,xC,xP,xA,xZ]
end Go.Proofs.Ytchlpclgkhggeaa