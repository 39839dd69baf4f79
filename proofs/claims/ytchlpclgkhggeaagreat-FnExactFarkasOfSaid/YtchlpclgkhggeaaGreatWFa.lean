/- part of the proof -/
import Derived.Tactics
import Derived.Orders
import Derived.Below
import Derived.Laws.OwnMore
import Derived.Laws.MakeOwn
import Derived.Laws.IdiomCopy
import Derived.Deep.MidRow
import Derived.Shelf.Abstract
import Derived.Laws.Cover3
import Derived.Laws.Small
import Derived.Laws.Pointers
namespace Go.Proofs.YtchlpclgkhggeaaGreat
open Go Go.RowKit
inductive Fl where
 | s | b | u
inductive V where
 | any
 | lit (v : Value)
 | emp
 | ptr (f : Fl) (cs : List V)
 | sl (f : Fl) (sz n : Nat) (cs : List V)
 | agg (vs : List V)
 | tup (vs : List V)
 | fn (f : Fn) (fs cs : List V)
 | ref (id off : Nat)
 | rsl (id sz o n : Nat)
 | mp (id : Nat)
abbrev BS:=Nat → Prop
def Flg (f : Fl) (S B : BS) (b : Nat) (X : Prop) (u us : List Nat) : Prop :=
 match f with
 | .s=>S b ∧ u = [] ∧ us = []
 | .b=>(S b ∨ B b) ∧ u = [] ∧ us = []
 | .u=>us = b :: u ∧ X
def Fz (f : Fl) (X : Prop) (us : List Nat) : Prop:=us = [] ∧ (f = .u → X)
def Flb (f : Fl) (B : BS) : BS:=match f with
 | .b=>B
 | _=>fun _=>False
theorem Flb.imp {f : Fl} {B B' : BS} (h : ∀ b,B b → B' b) : ∀ b,Flb f B b → Flb f B' b:=by
 cases f
 ·exact fun _ h=>h
 ·exact h
 ·exact fun _ h=>h
theorem Flb.le {f : Fl} {B : BS} : ∀ b,Flb f B b → B b:=by
 cases f
 ·exact fun _ h=>h.elim
 ·exact fun _ h=>h
 ·exact fun _ h=>h.elim
abbrev KM:=List (Option (Option Nat))
def kat (κ : KM) (id : Nat) : Option (Option Nat):=(κ[id]?).join
@[simp] theorem J0u (id : Nat) : kat [] id = none:=rfl
theorem Y4V {κ : KM} {id : Nat} {x : Option Nat} (h : kat κ id = some x) : id < κ.length:=by
 unfold kat at h
 cases e : κ[id]? with
 | none=>rw [e] at h; cases h
 | some y=>exact (List.getElem?_eq_some_iff.1 e).1
theorem X3x {κ κ' : KM} {id : Nat} (h : id < κ.length) : kat (κ ++ κ') id = kat κ id:=by
 unfold kat; rw [List.getElem?_append_left h]
theorem Q3g {κ κ' : KM} {id : Nat} (h : κ.length ≤ id) : kat (κ ++ κ') id = kat κ' (id - κ.length):=by
 unfold kat; rw [List.getElem?_append_right h]
theorem Q1R {κ : KM} (κ' : KM) : ∀ (id : Nat) (x : Option Nat),kat κ id = some x → kat (κ ++ κ') id = some x:=by
 intro id x h; rw [X3x (Y4V h)]; exact h
theorem Q1o (κ : KM) (k : Option Nat) : kat (κ ++ [some k]) κ.length = some k:=by
 rw [Q3g (Nat.le_refl _),Nat.sub_self]; rfl
def room (w : World) (b k : Nat) : Prop:=∃ arr ty,w.heap[b]? = some (.cells arr ty (0,0)) ∧ k = arr.size
mutual
def Rep (w : World) (S B : BS) (κ : KM) : V → Value → List Nat → Prop
 | .any,_,us=>us = []
 | .lit v,x,us=>us = [] ∧ x = v ∧ v.oneCell' = true
 | .emp,x,us=>us = [] ∧ ∃ a,x = .slice a 0 0
 | .ptr f cs,x,us=>∃ b o u,x = .pointer (some ⟨b,o,none⟩) ∧ Mem w S (Flb f B) [] cs b o u ∧ Flg f S B b (o = 0 ∧ ∃ k,room w b k) u us
 | .sl f sz n cs,x,us=>∃ a c,x = .slice a n c ∧ n ≤ c ∧ c ≤ maxLen ∧ cs.length = n * sz ∧
   ((n = 0 ∧ Fz f (c = 0) us) ∨ ∃ b o u,a = some ⟨b,o,none⟩ ∧ Mem w S (Flb f B) [] cs b o u ∧ Flg f S B b (o = 0 ∧ room w b (c * sz)) u us)
 | .agg vs,x,us=>∃ xs,x = .agg xs ∧ RepL w S B κ vs xs.toList us
 | .tup vs,x,us=>∃ xs,x = .tuple xs ∧ RepL w S B κ vs xs.toList us
 | .fn f fs cs,x,us=>us = [] ∧ ∃ ys zs,x = .func f ys zs ∧ RepL w S B κ fs ys.toList [] ∧ RepL w S B κ cs zs.toList []
 | .ref id off,x,us=>us = [] ∧ ∃ b,kat κ id = some (some b) ∧ x = .pointer (some ⟨b,off,none⟩)
 | .rsl id sz o n,x,us=>us = [] ∧ ((kat κ id = some none ∧ n = 0 ∧ o = 0 ∧ ∃ a,x = .slice a 0 0) ∨
   ∃ b c,kat κ id = some (some b) ∧ x = .slice (some ⟨b,o * sz,none⟩) n c ∧ n ≤ c ∧ c ≤ maxLen ∧ room w b (o * sz + c * sz))
 | .mp id,x,us=>us = [] ∧ ∃ b,kat κ id = some (some b) ∧ x = .map (some b)
def RepL (w : World) (S B : BS) (κ : KM) : List V → List Value → List Nat → Prop
 | [],xs,us=>xs = [] ∧ us = []
 | v :: vs,xs,us=>∃ x xs' u1 u2,xs = x :: xs' ∧ us = u1 ++ u2 ∧ Rep w S B κ v x u1 ∧ RepL w S B κ vs xs' u2
def Mem (w : World) (S B : BS) (κ : KM) : List V → Nat → Nat → List Nat → Prop
 | [],_,_,us=>us = []
 | c :: cs,b,o,us=>∃ x u1 u2,w.cell? ⟨b,o,none⟩ = some x ∧ us = u1 ++ u2 ∧ Rep w S B κ c x u1 ∧ Mem w S B κ cs b (o + 1) u2
end
structure Ext (w w' : World) (S S' B B' : BS) (κ κ' : KM) : Prop where
 s : ∀ b,S b → S' b
 b : ∀ b,B b → B' b
 k : ∀ (id : Nat) (x : Option Nat),kat κ id = some x → kat κ' id = some x
 r : ∀ b k,room w b k → room w' b k
 c : ∀ b,S b ∨ B b → ∀ o,w'.cell? ⟨b,o,none⟩ = w.cell? ⟨b,o,none⟩
theorem Ext.nilb {w w' : World} {S S' B B' : BS} {κ κ' : KM} (h : Ext w w' S S' B B' κ κ') (f : Fl) : Ext w w' S S' (Flb f B) (Flb f B') [] [] :=
 ⟨h.s,Flb.imp h.b,fun _ _ h=>h,h.r,fun b hb=>h.c b (hb.imp (fun h=>h) (Flb.le b))⟩
theorem Ext.nil {w w' : World} {S S' B B' : BS} {κ κ' : KM} (h : Ext w w' S S' B B' κ κ') : Ext w w' S S' B B' [] [] :=
 ⟨h.s,h.b,fun _ _ h=>h,h.r,h.c⟩
theorem Flg.ext {S S' B B' : BS} {f : Fl} {b : Nat} {X X' : Prop} {u us : List Nat} (hs : ∀ b,S b → S' b) (hb : ∀ b,B b → B' b) (hX : X → X') (h : Flg f S B b X u us) : Flg f S' B' b X' u us:=by
 cases f
 ·exact ⟨hs _ h.1,h.2⟩
 ·exact ⟨h.1.imp (hs _) (hb _),h.2⟩
 ·exact ⟨h.1,hX h.2⟩
theorem Flg.mem {S B : BS} {f : Fl} {b : Nat} {X : Prop} {u us : List Nat} (h : Flg f S B b X u us) : (S b ∨ B b ∨ b ∈ us) ∧ ∀ x ∈ u,x ∈ us:=by
 cases f
 ·exact ⟨.inl h.1,by simp [h.2.1]⟩
 ·exact ⟨h.1.imp id .inl,by simp [h.2.1]⟩
 ·have h' : us = b :: u:=h.1
  subst h'; exact ⟨.inr (.inr (by simp)),fun x hx=>by simp [hx]⟩
mutual
theorem Rep.ext {w w' : World} {S S' B B' : BS} (κ κ' : KM) (h : Ext w w' S S' B B' κ κ') : ∀ (v : V) (x : Value) (us : List Nat),
  (∀ b ∈ us,∀ o,w'.cell? ⟨b,o,none⟩ = w.cell? ⟨b,o,none⟩) → Rep w S B κ v x us → Rep w' S' B' κ' v x us
 | .any,_,_,_,hr=>hr
 | .lit _,_,_,_,hr=>hr
 | .emp,_,_,_,hr=>hr
 | .ptr f cs,x,us,hu,⟨b,o,u,h1,h2,h3⟩=>by
  have hm:=h3.mem
  refine ⟨b,o,u,h1,Mem.ext [] [] (h.nilb f) cs b o u ?_ ?_ h2,h3.ext h.s h.b (fun ⟨a,k,b⟩=>⟨a,k,h.r _ _ b⟩)⟩
  ·rcases hm.1 with hb | hb | hb
   ·exact h.c b (.inl hb)
   ·exact h.c b (.inr hb)
   ·exact hu b hb
  ·exact fun b hb=>hu b (hm.2 b hb)
 | .sl f sz n cs,x,us,hu,⟨a,c,h1,h2,h3,h4,h5⟩=>by
  refine ⟨a,c,h1,h2,h3,h4, ?_⟩
  rcases h5 with h5 | ⟨b,o,u,e,h6,h7⟩
  ·exact .inl h5
  ·have hm:=h7.mem
   refine .inr ⟨b,o,u,e,Mem.ext [] [] (h.nilb f) cs b o u ?_ ?_ h6,h7.ext h.s h.b (fun ⟨a,b⟩=>⟨a,h.r _ _ b⟩)⟩
   ·rcases hm.1 with hb | hb | hb
    ·exact h.c b (.inl hb)
    ·exact h.c b (.inr hb)
    ·exact hu b hb
   ·exact fun b hb=>hu b (hm.2 b hb)
 | .agg vs,x,us,hu,⟨xs,h1,h2⟩=>⟨xs,h1,RepL.ext κ κ' h vs xs.toList us hu h2⟩
 | .tup vs,x,us,hu,⟨xs,h1,h2⟩=>⟨xs,h1,RepL.ext κ κ' h vs xs.toList us hu h2⟩
 | .fn f fs cs,x,us,hu,⟨h0,ys,zs,h1,h2,h3⟩ =>
  ⟨h0,ys,zs,h1,RepL.ext κ κ' h fs ys.toList [] (by simp) h2,RepL.ext κ κ' h cs zs.toList [] (by simp) h3⟩
 | .ref id off,x,us,hu,⟨h0,b,h1,h2⟩=>⟨h0,b,h.k _ _ h1,h2⟩
 | .mp id,x,us,hu,⟨h0,b,h1,h2⟩=>⟨h0,b,h.k _ _ h1,h2⟩
 | .rsl id sz o n,x,us,hu,⟨h0,h1⟩=>by
  refine ⟨h0, ?_⟩
  rcases h1 with ⟨h1,h2⟩ | ⟨b,c,h1,h2,h3,h4,h5⟩
  ·exact .inl ⟨h.k _ _ h1,h2⟩
  ·exact .inr ⟨b,c,h.k _ _ h1,h2,h3,h4,h.r _ _ h5⟩
theorem RepL.ext {w w' : World} {S S' B B' : BS} (κ κ' : KM) (h : Ext w w' S S' B B' κ κ') : ∀ (vs : List V) (xs : List Value) (us : List Nat),
  (∀ b ∈ us,∀ o,w'.cell? ⟨b,o,none⟩ = w.cell? ⟨b,o,none⟩) → RepL w S B κ vs xs us → RepL w' S' B' κ' vs xs us
 | [],_,_,_,hr=>hr
 | v :: vs,xs,us,hu,⟨x,xs',u1,u2,h1,h2,h3,h4⟩ =>
  ⟨x,xs',u1,u2,h1,h2,Rep.ext κ κ' h v x u1 (fun b hb=>hu b (by simp [h2,hb])) h3,RepL.ext κ κ' h vs xs' u2 (fun b hb=>hu b (by simp [h2,hb])) h4⟩
theorem Mem.ext {w w' : World} {S S' B B' : BS} (κ κ' : KM) (h : Ext w w' S S' B B' κ κ') : ∀ (cs : List V) (b o : Nat) (us : List Nat),
  (∀ o,w'.cell? ⟨b,o,none⟩ = w.cell? ⟨b,o,none⟩) → (∀ b ∈ us,∀ o,w'.cell? ⟨b,o,none⟩ = w.cell? ⟨b,o,none⟩) → Mem w S B κ cs b o us → Mem w' S' B' κ' cs b o us
 | [],_,_,_,_,_,hr=>hr
 | c :: cs,b,o,us,hb,hu,⟨x,u1,u2,h1,h2,h3,h4⟩ =>
  ⟨x,u1,u2,by rw [hb]; exact h1,h2,Rep.ext κ κ' h c x u1 (fun b hb=>hu b (by simp [h2,hb])) h3,Mem.ext κ κ' h cs b (o + 1) u2 hb (fun b hb=>hu b (by simp [h2,hb])) h4⟩
end
set_option linter.unusedVariables false
set_option linter.unusedSimpArgs false
inductive OSt where
 | own | frz | dead | res | mp
structure Ob where
 st : OSt
 ty : TypeId
 cs : List V
structure St where
 tm : List (Nat × V)
 hp : List Ob
def V.ofVal1 (v : Value) : V :=
 match v with
 | .slice none 0 0=>.emp
 | .agg _ | .tuple _=>.any
 | v=>.lit v
def V.ofVal (v : Value) : V :=
 match v with
 | .agg xs=>.agg (xs.toList.map V.ofVal1)
 | v=>V.ofVal1 v
def St.get (s : St) (t : Nat) : V:=(s.tm.lookup t).getD .any
def St.ev (s : St) : Operand → V
 | .tmp t=>s.get t
 | .const v=>V.ofVal v
 | .global _=>.any
 | .func f=>.fn (.func f) [] []
def St.put (s : St) (d : Option Tmp) (v : V) : St :=
 match d with
 | some d=>{ s with tm:=(d,v) :: s.tm }
 | none=>s
def St.prune (keep : List Nat) (s : St) : St:={ s with tm:=keep.filterMap fun t=>(s.tm.lookup t).map fun v=>(t,v) }
structure Env where
 w0 : World
 M : List Nat
 S0 : BS
 B : BS
 N : Nat
 K0 : KM
structure Keeps (M : List Nat) (w w' : World) : Prop where
 os : w'.os = w.os
 tape : w'.tape = w.tape
 output : w'.output = w.output
 size : w.heap.size ≤ w'.heap.size
 block : ∀ k,k < w.heap.size → k ∉ M → w'.heap[k]? = w.heap[k]?
 rm : ∀ b k,room w b k → room w' b k
def Blk (w : World) (b : Nat) (arr : Array Value) : Prop:=∃ ty,w.heap[b]? = some (.cells arr ty (0,0))
def ObR (w : World) (S B : BS) (κ : KM) (ob : Ob) (k : Option Nat) (us : List Nat) : Prop :=
 match ob.st with
 | .dead=>us = []
 | .res=>False
 | .mp=>∃ b es ck,k = some b ∧ us = [b] ∧ w.heap[b]? = some (.map es ck) ∧ RepL w S B κ ob.cs (es.toList.flatMap fun e=>[e.key,e.val]) []
 | .frz=>us = [] ∧ ((k = none ∧ ob.cs = []) ∨ ∃ b arr,k = some b ∧ S b ∧ Blk w b arr ∧ Mem w S B κ ob.cs b 0 [])
 | .own=>(k = none ∧ ob.cs = [] ∧ us = []) ∨ ∃ b arr u,k = some b ∧ us = b :: u ∧ Blk w b arr ∧ Mem w S B κ ob.cs b 0 u
structure Hp (E : Env) (H : List Ob) (w : World) (κ : KM) (S : BS) (uss : List (List Nat)) : Prop where
 kl : κ.length = H.length
 al : ∀ (i : Nat) (ob : Ob),H[i]? = some ob → ob.st = .own ∨ ob.st = .frz → ∃ k,kat κ i = some k
 ul : uss.length = H.length
 ob : ∀ (i : Nat) (ob : Ob) (k : Option Nat) (us : List Nat),H[i]? = some ob → kat κ i = some k → uss[i]? = some us → ObR w S E.B κ ob k us
 nd : uss.flatten.Nodup
 ow : ∀ b ∈ uss.flatten,¬ S b ∧ ¬ E.B b ∧ b < w.heap.size ∧ (E.w0.heap.size ≤ b ∨ b ∈ E.M)
 sb : ∀ b,S b → b < w.heap.size
 s0 : ∀ b,E.S0 b → S b
 s1 : ∀ b,S b → E.S0 b ∨ E.w0.heap.size ≤ b ∨ b ∈ E.M
 bb : ∀ b,E.B b → b < E.w0.heap.size
 kp : Keeps E.M E.w0 w
 kk : ∀ (id : Nat) (x : Option Nat),kat E.K0 id = some x → kat κ id = some x
structure Cn (E : Env) (s : St) (a : Act) (w : World) (κ : KM) (S : BS) (uss : List (List Nat)) : Prop extends Hp E s.hp w κ S uss where
 fr : ∀ t v,s.tm.lookup t = some v → Rep w S E.B κ v (a.tmps.getD t undef) []
 df : a.defers = []
 sz : E.N ≤ a.tmps.size
def CN (E : Env) (s : St) (a : Act) (w : World) : Prop:=∃ κ S uss,Cn E s a w κ S uss
theorem Y6R {w : World} {b k : Nat} (h : room w b k) : b < w.heap.size:=by
 obtain ⟨arr,ty,h,_⟩:=h
 exact (Array.getElem?_eq_some_iff.1 h).1
theorem Q1r {w w' : World} {b k : Nat} (e : w'.heap[b]? = w.heap[b]?) (h : room w b k) : room w' b k:=by
 obtain ⟨arr,ty,h,hk⟩:=h
 exact ⟨arr,ty,e.trans h,hk⟩
theorem Keeps.refl (M : List Nat) (w : World) : Keeps M w w:=⟨rfl,rfl,rfl,Nat.le_refl _,fun _ _ _=>rfl,fun _ _ h=>h⟩
theorem Keeps.trans {M : List Nat} {a b c : World} (h : Keeps M a b) (k : Keeps M b c) : Keeps M a c :=
  ⟨k.os.trans h.os,k.tape.trans h.tape,k.output.trans h.output,Nat.le_trans h.size k.size,
   fun i hi hm=>(k.block i (Nat.lt_of_lt_of_le hi h.size) hm).trans (h.block i hi hm),fun b n hr=>k.rm _ _ (h.rm _ _ hr)⟩
theorem Keeps.of_below {w w' : World} (M : List Nat) (h : Below w.heap.size w w') : Keeps M w w' :=
 ⟨h.os,h.tape,h.output,h.size,fun k hk _=>h.block k hk,fun b k hr=>Q1r (h.block b (Y6R hr)) hr⟩
theorem Keeps.below {w w' : World} (h : Keeps [] w w') : Below w.heap.size w w' :=
 ⟨h.os,h.tape,h.output,h.size,fun k hk=>h.block k hk (by simp)⟩
theorem Ext.of_below {w w' : World} (h : Below w.heap.size w w') {S S' B B' : BS} {κ κ' : KM} (hs : ∀ b,S b → S' b) (hb : ∀ b,B b → B' b)
  (hk : ∀ (id : Nat) (x : Option Nat),kat κ id = some x → kat κ' id = some x) (hl : ∀ b,S b ∨ B b → b < w.heap.size) : Ext w w' S S' B B' κ κ' :=
 ⟨hs,hb,hk,fun b k hr=>Q1r (h.block b (Y6R hr)) hr,fun b hb _=>h.cell (hl b hb)⟩
theorem Mem.lt {w : World} {S B : BS} {κ : KM} : ∀ {cs : List V} {b o : Nat} {us : List Nat},Mem w S B κ cs b o us → cs ≠ [] → b < w.heap.size
 | [],_,_,_,_,h=>(h rfl).elim
 | _ :: _,_,_,_,⟨_,_,_,h,_⟩,_=>World.block_lt_of_cell? w _ h
theorem ObR.ext {w w' : World} {S S' B B' : BS} {κ κ' : KM} (h : Ext w w' S S' B B' κ κ') {ob : Ob} {k : Option Nat} {us : List Nat}
  (hu : ∀ b,S b ∨ b ∈ us → w'.heap[b]? = w.heap[b]?) (hr : ObR w S B κ ob k us) : ObR w' S' B' κ' ob k us:=by
 obtain ⟨st,ty,cs⟩:=ob
 cases st
 case dead=>exact hr
 case res=>exact hr.elim
 case mp =>
  obtain ⟨b,es,ck,h1,h2,h3,h4⟩:=hr
  exact ⟨b,es,ck,h1,h2,by rw [hu b (.inr (by simp [h2]))]; exact h3,RepL.ext κ κ' h _ _ _ (by simp) h4⟩
 case frz =>
  refine ⟨hr.1,hr.2.imp id ?_⟩
  rintro ⟨b,arr,h1,h2,h3,h4⟩
  have hb:=hu b (.inl h2)
  exact ⟨b,arr,h1,h.s _ h2,h3.imp fun _ h3=>hb.trans h3,Mem.ext κ κ' h _ _ _ _ (fun o=>World.cell?_of_block (w:=w) hb) (by simp) h4⟩
 case own =>
  refine Or.imp id ?_ hr
  rintro ⟨b,arr,u,h1,h2,h3,h4⟩
  have hb:=hu b (.inr (by simp [h2]))
  exact ⟨b,arr,u,h1,h2,h3.imp fun _ h3=>hb.trans h3,Mem.ext κ κ' h _ _ _ _ (fun o=>World.cell?_of_block (w:=w) hb)
   (fun x hx o=>World.cell?_of_block (w:=w) (hu x (.inr (by simp [h2,hx])))) h4⟩
theorem Hp.bnd {E : Env} {H : List Ob} {w : World} {κ : KM} {S : BS} {uss : List (List Nat)} (h : Hp E H w κ S uss) : ∀ b,S b ∨ E.B b → b < w.heap.size:=by
 rintro b (hb | hb)
 ·exact h.sb b hb
 ·exact Nat.lt_of_lt_of_le (h.bb b hb) h.kp.size
theorem Hp.grow {E : Env} {H : List Ob} {w w' : World} {κ : KM} {S S' : BS} {uss : List (List Nat)} (h : Hp E H w κ S uss) (hb : Below w.heap.size w w')
  (hs : ∀ b,S b → S' b) (hn : ∀ b,S' b → S b ∨ (w.heap.size ≤ b ∧ b < w'.heap.size)) : Hp E H w' κ S' uss where
 kl:=h.kl
 al:=h.al
 ul:=h.ul
 ob i ob k us h1 h2 h3:=by
  refine (h.ob i ob k us h1 h2 h3).ext (Ext.of_below hb hs (fun _ h=>h) (fun _ _ h=>h) h.bnd) ?_
  intro b hbb
  refine hb.block b ?_
  rcases hbb with hbb | hbb
  ·exact h.sb b hbb
  ·exact (h.ow b (List.mem_flatten.2 ⟨us,List.mem_of_getElem? h3,hbb⟩)).2.2.1
 nd:=h.nd
 ow b hbm:=by
  obtain ⟨h1,h2,h3,h4⟩:=h.ow b hbm
  refine ⟨fun hs'=>?_,h2,Nat.lt_of_lt_of_le h3 hb.size,h4⟩
  rcases hn b hs' with hx | ⟨hx,_⟩
  ·exact h1 hx
  ·omega
 sb b hbm:=by
  rcases hn b hbm with hx | ⟨_,hx⟩
  ·exact Nat.lt_of_lt_of_le (h.sb b hx) hb.size
  ·exact hx
 s0 b hbm:=hs b (h.s0 b hbm)
 s1 b hbm:=by
  rcases hn b hbm with hx | ⟨hx,_⟩
  ·exact h.s1 b hx
  ·exact .inr (.inl (Nat.le_trans h.kp.size hx))
 bb:=h.bb
 kp:=h.kp.trans (.of_below _ hb)
 kk:=h.kk
theorem Act.getD_put (a : Act) (d t : Nat) (x : Value) (hd : d < a.tmps.size) : (a.put (some d) x).tmps.getD t undef = if t = d then x else a.tmps.getD t undef:=by
 simp only [Act.put]
 by_cases h : t = d
 ·subst h; simp [hd]
 ·simp [h,Ne.symm h]
theorem St.lookup_put (s : St) (d t : Nat) (v : V) : (s.put (some d) v).tm.lookup t = if t = d then some v else s.tm.lookup t:=by
 simp only [St.put,List.lookup_cons]
 by_cases h : t = d
 ·subst h; simp
 ·have : (t == d) = false:=by simpa using h
  simp [this,h]
theorem Z5z {w : World} {S B : BS} {κ : KM} {s : St} {a : Act} {d : Option Tmp} {v : V} {x : Value} {N : Nat}
  (hf : ∀ t v,s.tm.lookup t = some v → Rep w S B κ v (a.tmps.getD t undef) []) (hsz : N ≤ a.tmps.size) (hd : ∀ t,d = some t → t < N) (hx : Rep w S B κ v x []) :
  ∀ t u,(s.put d v).tm.lookup t = some u → Rep w S B κ u ((a.put d x).tmps.getD t undef) []:=by
 cases d with
 | none=>exact hf
 | some d =>
  intro t u h
  have hlt : d < a.tmps.size:=Nat.lt_of_lt_of_le (hd d rfl) hsz
  rw [St.lookup_put] at h
  rw [Act.getD_put a d t x hlt]
  by_cases e : t = d
  ·simp only [e,if_true] at h ⊢
   obtain rfl : v = u:=by simpa using h
   exact hx
  ·simp only [e,if_false] at h ⊢
   exact hf t u h
theorem Act.size_put (a : Act) (d : Option Tmp) (x : Value) : (a.put d x).tmps.size = a.tmps.size:=by
 cases d <;> simp [Act.put]
theorem Act.defers_put (a : Act) (d : Option Tmp) (x : Value) : (a.put d x).defers = a.defers:=by
 cases d <;> rfl
theorem St.hp_put (s : St) (d : Option Tmp) (v : V) : (s.put d v).hp = s.hp:=by cases d <;> rfl
theorem Cn.ev {E : Env} {s : St} {a : Act} {w : World} {κ : KM} {S : BS} {uss : List (List Nat)} (h : Cn E s a w κ S uss) (x : Operand) :
  Rep w S E.B κ (s.ev x) (a.eval x) []:=by
 cases x with
 | tmp t =>
  show Rep w S E.B κ (s.get t) (a.tmps.getD t undef) []
  unfold St.get
  cases hl : s.tm.lookup t with
  | none=>rfl
  | some v=>exact h.fr t v hl
 | global g=>rfl
 | func f=>exact ⟨rfl,#[],#[],rfl,⟨rfl,rfl⟩,⟨rfl,rfl⟩⟩
 | const v =>
  show Rep w S E.B κ (V.ofVal v) v []
  have h1 : ∀ v,Rep w S E.B κ (V.ofVal1 v) v []:=by
   intro v
   unfold V.ofVal1
   split
   ·exact ⟨rfl,none,rfl⟩
   ·rfl
   ·rfl
   ·refine ⟨rfl,rfl, ?_⟩
    unfold Value.oneCell'
    split <;> simp_all
  have h2 : ∀ xs : List Value,RepL w S E.B κ (xs.map V.ofVal1) xs []:=by
   intro xs
   induction xs with
   | nil=>exact ⟨rfl,rfl⟩
   | cons x xs ih=>exact ⟨x,xs,[],[],rfl,rfl,h1 x,ih⟩
  unfold V.ofVal
  split
  ·rename_i xs
   exact ⟨xs,rfl,h2 xs.toList⟩
  ·exact h1 v
def FlLe (f g g' : Fl) : Prop:=match g with
 | .s=>g' = .s ∨ g' = .b
 | .b=>g' = .b ∧ f = .b
 | .u=>g' = f
def V.cl : V → Prop
 | .lit _ | .emp | .any | .sl .s _ _ _ | .ptr .s _=>True
 | _=>False
mutual
inductive Le (H : List Ob) (f : Fl) : V → V → Prop
 | any (v : V) : Le H f v .any
 | lit (v : Value) : Le H f (.lit v) (.lit v)
 | emp : Le H f .emp .emp
 | esl (g : Fl) (sz : Nat) : Le H f .emp (.sl g sz 0 [])
 | sl (g g' : Fl) (sz n : Nat) (cs cs' : List V) : FlLe f g g' → LeL H f cs cs' → Le H f (.sl g sz n cs) (.sl g' sz n cs')
 | ptr (g g' : Fl) (cs cs' : List V) : FlLe f g g' → LeL H f cs cs' → Le H f (.ptr g cs) (.ptr g' cs')
 | agg (vs vs' : List V) : LeL H f vs vs' → Le H f (.agg vs) (.agg vs')
 | tup (vs vs' : List V) : LeL H f vs vs' → Le H f (.tup vs) (.tup vs')
 | fn (x : Fn) (fs fs' cs cs' : List V) : LeL H f fs fs' → LeL H f cs cs' → Le H f (.fn x fs cs) (.fn x fs' cs')
 | rsl (id sz o n : Nat) (ob : Ob) (cs' : List V) : H[id]? = some ob → ob.st = .own ∨ ob.st = .frz → o * sz + n * sz ≤ ob.cs.length →
   LeL H f ((ob.cs.drop (o * sz)).take (n * sz)) cs' → Le H f (.rsl id sz o n) (.sl f sz n cs')
 | rslz (id sz o n : Nat) (ob : Ob) : H[id]? = some ob → ob.st = .frz → o * sz + n * sz ≤ ob.cs.length →
   (∀ c ∈ (ob.cs.drop (o * sz)).take (n * sz),c.cl) → Le H f (.rsl id sz o n) (.sl .s sz n ((ob.cs.drop (o * sz)).take (n * sz)))
 | ref (id off : Nat) (ob : Ob) (cs' : List V) : H[id]? = some ob → ob.st = .own ∨ ob.st = .frz →
   LeL H f (ob.cs.drop off) cs' → Le H f (.ref id off) (.ptr f cs')
 | refz (id off : Nat) (ob : Ob) : H[id]? = some ob → ob.st = .frz → (∀ c ∈ ob.cs.drop off,c.cl) → Le H f (.ref id off) (.ptr .s (ob.cs.drop off))
inductive LeL (H : List Ob) (f : Fl) : List V → List V → Prop
 | nil : LeL H f [] []
 | cons (v v' : V) (vs vs' : List V) : Le H f v v' → LeL H f vs vs' → LeL H f (v :: vs) (v' :: vs')
end
def Tg (f : Fl) (S B : BS) (b : Nat) : Prop:=match f with
 | .s=>S b
 | .b=>S b ∨ B b
 | .u=>False
theorem LeL.length {H : List Ob} {f : Fl} : ∀ {cs cs' : List V},LeL H f cs cs' → cs.length = cs'.length
 | _,_,.nil=>rfl
 | _,_,.cons _ _ _ _ _ h=>by simp [h.length]
theorem Mem.append {w : World} {S B : BS} {κ : KM} : ∀ {cs ds : List V} {b o : Nat} {us : List Nat},
  Mem w S B κ (cs ++ ds) b o us ↔ ∃ u1 u2,us = u1 ++ u2 ∧ Mem w S B κ cs b o u1 ∧ Mem w S B κ ds b (o + cs.length) u2
 | [],ds,b,o,us=>by
  constructor
  ·intro h; exact ⟨[],us,rfl,rfl,h⟩
  ·rintro ⟨u1,u2,rfl,h1,h2⟩
   obtain rfl : u1 = []:=h1
   exact h2
 | c :: cs,ds,b,o,us=>by
  constructor
  ·rintro ⟨x,u1,u2,h1,rfl,h2,h3⟩
   obtain ⟨u3,u4,rfl,h4,h5⟩:=Mem.append.1 h3
   exact ⟨u1 ++ u3,u4,by simp,⟨x,u1,u3,h1,rfl,h2,h4⟩,by rw [List.length_cons,← Nat.add_assoc,Nat.add_right_comm]; exact h5⟩
  ·rintro ⟨u1,u2,rfl,⟨x,u3,u4,h1,rfl,h2,h3⟩,h4⟩
   refine ⟨x,u3,u4 ++ u2,h1,by simp,h2,Mem.append.2 ⟨u4,u2,rfl,h3, ?_⟩⟩
   rw [List.length_cons,← Nat.add_assoc,Nat.add_right_comm] at h4; exact h4
theorem Mem.drop {w : World} {S B : BS} {κ : KM} {cs : List V} {b o : Nat} {us : List Nat} (i : Nat) (h : Mem w S B κ cs b o us) (hi : i ≤ cs.length) :
  ∃ u,(∀ x ∈ u,x ∈ us) ∧ Mem w S B κ (cs.drop i) b (o + i) u:=by
 rw [← List.take_append_drop i cs] at h
 obtain ⟨u1,u2,rfl,h1,h2⟩:=Mem.append.1 h
 exact ⟨u2,fun x hx=>by simp [hx],by simpa [Nat.min_eq_left hi] using h2⟩
theorem Mem.take {w : World} {S B : BS} {κ : KM} {cs : List V} {b o : Nat} {us : List Nat} (i : Nat) (h : Mem w S B κ cs b o us) :
  ∃ u,(∀ x ∈ u,x ∈ us) ∧ Mem w S B κ (cs.take i) b o u:=by
 rw [← List.take_append_drop i cs] at h
 obtain ⟨u1,u2,rfl,h1,h2⟩:=Mem.append.1 h
 exact ⟨u1,fun x hx=>by simp [hx],h1⟩
section
variable {H : List Ob} {f : Fl} {w : World} {S S' : BS} {κ : KM} {uss : List (List Nat)}
structure LeOk (H : List Ob) (f : Fl) (w : World) (S B S' B' : BS) (κ : KM) (uss : List (List Nat)) : Prop where
 kl : κ.length = H.length
 ul : uss.length = H.length
 ob : ∀ (i : Nat) (ob : Ob) (k : Option Nat) (us : List Nat),H[i]? = some ob → kat κ i = some k → uss[i]? = some us → ObR w S B κ ob k us
 s : ∀ b,S b → S' b
 b : f = .b → ∀ b,B b → B' b
 t : ∀ b ∈ uss.flatten,Tg f S' B' b
 nu : f ≠ .u
theorem FlLe.flg {B B' : BS} {g g' : Fl} (hl : FlLe f g g') (hs : ∀ b,S b → S' b) (hb : f = .b → ∀ b,B b → B' b) {b : Nat} {X X' : Prop} {u us : List Nat} (hnu : f ≠ .u) (ht : ∀ b ∈ us,Tg f S' B' b) (h : Flg g S B b X u us) : Flg g' S' B' b X' [] []:=by
 cases g
 ·rcases hl with rfl | rfl
  ·exact ⟨hs _ h.1,rfl,rfl⟩
  ·exact ⟨.inl (hs _ h.1),rfl,rfl⟩
 ·obtain ⟨rfl,hf⟩:=hl
  exact ⟨h.1.imp (hs _) (hb hf _),rfl,rfl⟩
 ·obtain rfl : g' = f:=hl
  obtain rfl : us = b :: u:=h.1
  have:=ht b (by simp)
  cases g'
  ·exact ⟨this,rfl,rfl⟩
  ·exact ⟨this,rfl,rfl⟩
  ·exact this.elim
theorem LeOk.cells {B B' : BS} (h : LeOk H f w S B S' B' κ uss) {id : Nat} {ob : Ob} (hi : H[id]? = some ob) (ht : ob.st = .own ∨ ob.st = .frz) {k : Option Nat} (hk : kat κ id = some k) :
  (k = none ∧ ob.cs = []) ∨ ∃ b u,k = some b ∧ (ob.st = .frz → S b ∧ u = []) ∧ Tg f S' B' b ∧ (∀ x ∈ u,Tg f S' B' x) ∧ Mem w S B κ ob.cs b 0 u:=by
 have hlt : id < uss.length:=by rw [h.ul]; exact (List.getElem?_eq_some_iff.1 hi).1
 have hu : uss[id]? = some uss[id]:=List.getElem?_eq_getElem hlt
 have hr:=h.ob id ob k _ hi hk hu
 have hmem : ∀ b ∈ uss[id],Tg f S' B' b:=fun b hb=>h.t b (List.mem_flatten.2 ⟨_,List.getElem_mem hlt,hb⟩)
 generalize uss[id] = us at *
 obtain ⟨st,ty,cs⟩:=ob
 cases st
 case dead=>rcases ht with ht | ht <;> cases ht
 case res=>rcases ht with ht | ht <;> cases ht
 case mp=>rcases ht with ht | ht <;> cases ht
 case frz =>
  obtain ⟨rfl,hr⟩:=hr
  refine hr.imp (fun h=>h) ?_
  rintro ⟨b,arr,h1,h2,h3,h4⟩
  refine ⟨b,[],h1,fun _=>⟨h2,rfl⟩, ?_,by simp,h4⟩
  have:=h.nu
  cases f
  ·exact h.s _ h2
  ·exact .inl (h.s _ h2)
  ·exact (this rfl).elim
 case own =>
  refine hr.elim (fun hr=>.inl ⟨hr.1,hr.2.1⟩) fun hr=>.inr ?_
  obtain ⟨b,arr,u,h1,h2,h3,h4⟩:=hr
  exact ⟨b,u,h1,(by intro h; cases h),hmem b (by simp [h2]),fun x hx=>hmem x (by simp [h2,hx]),h4⟩
theorem FlLe.nu {g g' : Fl} (hnu : f ≠ .u) (hl : FlLe f g g') : g' ≠ .u:=by
 cases g
 ·rcases hl with rfl | rfl <;> simp
 ·obtain ⟨rfl,_⟩:=hl; simp
 ·obtain rfl : g' = f:=hl; exact hnu
theorem Tg.flg {B' : BS} {b : Nat} {X : Prop} (hnu : f ≠ .u) (h : Tg f S' B' b) : Flg f S' B' b X [] []:=by
 cases f
 ·exact ⟨h,rfl,rfl⟩
 ·exact ⟨h,rfl,rfl⟩
 ·exact (hnu rfl).elim
theorem Tg.flb {B' : BS} {b : Nat} (h : Tg f S' B' b) : Tg f S' (Flb f B') b:=by
 cases f <;> exact h
theorem LeOk.flb {B B' : BS} (h : LeOk H f w S B S' B' κ uss) : LeOk H f w S B S' (Flb f B') κ uss where
 kl:=h.kl
 ul:=h.ul
 ob:=h.ob
 s:=h.s
 b hf:=by subst hf; exact h.b rfl
 t b hb:=(h.t b hb).flb
 nu:=h.nu
theorem FlLe.tg {B' : BS} {g g' : Fl} (hnu : f ≠ .u) (hl : FlLe f g g') {B : BS} {b : Nat} {X : Prop} {u us : List Nat} (ht : ∀ b ∈ us,Tg f S' B' b) (h : Flg g S B b X u us) : ∀ b ∈ u,Tg f S' (Flb g' B') b:=by
 intro x hx
 have hx':=ht x (h.mem.2 x hx)
 cases g
 ·rw [h.2.1] at hx; cases hx
 ·rw [h.2.1] at hx; cases hx
 ·obtain rfl : g' = f:=hl
  exact Tg.flb hx'
theorem FlLe.flb {B B' : BS} {g g' : Fl} (hl : FlLe f g g') (hb : f = .b → ∀ b,B b → B' b) : f = .b → ∀ b,Flb g B b → Flb g' B' b:=by
 intro hf
 cases g
 ·exact fun _ h=>h.elim
 ·obtain ⟨rfl,_⟩:=hl
  exact hb hf
 ·exact fun _ h=>h.elim
theorem V.cl.rep {B B' : BS} {κ κ' : KM} (hs : ∀ b,S b → S' b) {v : V} (hc : v.cl) {x : Value} {us : List Nat} (h : Rep w S B κ v x us) : Rep w S' B' κ' v x us:=by
 have he : ∀ B B' : BS,Ext w w S S' (Flb .s B) (Flb .s B') [] []:=fun B B'=>⟨hs,fun _ h=>h.elim,fun _ _ h=>h,fun _ _ h=>h,fun _ _ _=>rfl⟩
 unfold V.cl at hc
 split at hc
 ·exact h
 ·exact h
 ·exact h
 ·obtain ⟨a,c,h1,h2,h3,h4,h5⟩:=h
  refine ⟨a,c,h1,h2,h3,h4,h5.imp (fun h=>h) ?_⟩
  rintro ⟨b,o,u,e,h6,h7⟩
  exact ⟨b,o,u,e,Mem.ext [] [] (he B B') _ _ _ _ (fun _=>rfl) (fun _ _ _=>rfl) h6,hs _ h7.1,h7.2⟩
 ·obtain ⟨b,o,u,e,h6,h7⟩:=h
  exact ⟨b,o,u,e,Mem.ext [] [] (he B B') _ _ _ _ (fun _=>rfl) (fun _ _ _=>rfl) h6,hs _ h7.1,h7.2⟩
 ·exact hc.elim
theorem Mem.cl {B B' : BS} {κ κ' : KM} (hs : ∀ b,S b → S' b) : ∀ {cs : List V} (hc : ∀ c ∈ cs,c.cl) {b o : Nat} {us : List Nat} (h : Mem w S B κ cs b o us),Mem w S' B' κ' cs b o us
 | [],_,_,_,_,h=>h
 | c :: cs,hc,b,o,us,⟨x,u1,u2,h1,h2,h3,h4⟩ =>
  ⟨x,u1,u2,h1,h2,(hc c (by simp)).rep hs h3,Mem.cl hs (fun c h=>hc c (by simp [h])) h4⟩
theorem V.cl.us {B : BS} {κ : KM} {v : V} (hc : v.cl) {x : Value} {us : List Nat} (h : Rep w S B κ v x us) : us = []:=by
 unfold V.cl at hc
 split at hc
 ·exact h.1
 ·exact h.1
 ·exact h
 ·obtain ⟨a,c,h1,h2,h3,h4,h5⟩:=h
  rcases h5 with ⟨_,h⟩ | ⟨b,o,u,e,h6,h7⟩
  ·exact h.1
  ·exact h7.2.2
 ·obtain ⟨b,o,u,e,h6,h7⟩:=h
  exact h7.2.2
 ·exact hc.elim
theorem Mem.cl_us {B : BS} {κ : KM} : ∀ {cs : List V} (hc : ∀ c ∈ cs,c.cl) {b o : Nat} {us : List Nat} (h : Mem w S B κ cs b o us),us = []
 | [],_,_,_,_,h=>h
 | c :: cs,hc,b,o,us,⟨x,u1,u2,h1,h2,h3,h4⟩=>by
  rw [h2,(hc c (by simp)).us h3,Mem.cl_us (fun c h=>hc c (by simp [h])) h4]; rfl
mutual
theorem Le.sound (hnu : f ≠ .u) (hs : ∀ b,S b → S' b) : ∀ {v v' : V},Le H f v v' → ∀ {B B' : BS} {κ0 : KM} {x : Value} {us : List Nat},(f = .b → ∀ b,B b → B' b) →
  (κ0 = [] ∨ κ0 = κ ∧ ∃ B0,LeOk H f w S B0 S' B' κ uss) → (∀ b ∈ us,Tg f S' B' b) → Rep w S B κ0 v x us → Rep w S' B' [] v' x []
 | _,_,.any _,_,_,_,_,_,_,_,_,_=>rfl
 | _,_,.lit _,_,_,_,_,_,_,_,_,hr=>⟨rfl,hr.2⟩
 | _,_,.emp,_,_,_,_,_,_,_,_,hr=>⟨rfl,hr.2⟩
 | _,_,.esl g sz,_,_,_,_,_,_,_,_,hr=>by
  obtain ⟨_,a,rfl⟩:=hr
  exact ⟨a,0,rfl,Nat.le_refl _,Nat.zero_le _,by simp,.inl ⟨rfl,rfl,fun _=>rfl⟩⟩
 | _,_,.sl g g' sz n cs cs' hg hl,B,B',κ0,x,us,hb,hk,hu,hr=>by
  obtain ⟨a,c,h1,h2,h3,h4,h5⟩:=hr
  refine ⟨a,c,h1,h2,h3,by rw [← hl.length]; exact h4, ?_⟩
  rcases h5 with ⟨h5,_⟩ | ⟨b,o,u,e,h6,h7⟩
  ·exact .inl ⟨h5,rfl,fun h=>absurd h (hg.nu hnu)⟩
  ·exact .inr ⟨b,o,[],e,LeL.mem hnu hs hl (hg.flb hb) (.inl rfl) (hg.tg hnu hu h7) h6,hg.flg hs hb hnu hu h7⟩
 | _,_,.ptr g g' cs cs' hg hl,B,B',κ0,x,us,hb,hk,hu,hr=>by
  obtain ⟨b,o,u,e,h6,h7⟩:=hr
  exact ⟨b,o,[],e,LeL.mem hnu hs hl (hg.flb hb) (.inl rfl) (hg.tg hnu hu h7) h6,hg.flg hs hb hnu hu h7⟩
 | _,_,.agg vs vs' hl,B,B',κ0,x,us,hb,hk,hu,hr=>by
  obtain ⟨xs,h1,h2⟩:=hr
  exact ⟨xs,h1,LeL.rep hnu hs hl hb hk hu h2⟩
 | _,_,.tup vs vs' hl,B,B',κ0,x,us,hb,hk,hu,hr=>by
  obtain ⟨xs,h1,h2⟩:=hr
  exact ⟨xs,h1,LeL.rep hnu hs hl hb hk hu h2⟩
 | _,_,.fn y fs fs' cs cs' hf hc,B,B',κ0,x,us,hb,hk,hu,hr=>by
  obtain ⟨_,ys,zs,h1,h2,h3⟩:=hr
  exact ⟨rfl,ys,zs,h1,LeL.rep hnu hs hf hb hk (by simp) h2,LeL.rep hnu hs hc hb hk (by simp) h3⟩
 | _,_,.rsl id sz o n ob cs' hi ht hle hl,B,B',κ0,x,us,hb,hk,hu,hr=>by
  obtain ⟨_,hr⟩:=hr
  have hlen : cs'.length = n * sz:=by rw [← hl.length,List.length_take,List.length_drop]; omega
  rcases hr with ⟨h1,rfl,rfl,a,rfl⟩ | ⟨b,c,h1,rfl,h3,h4,h5⟩
  ·exact ⟨a,0,rfl,Nat.le_refl _,Nat.zero_le _,by simpa using hlen,.inl ⟨rfl,rfl,fun _=>rfl⟩⟩
  ·rcases hk with hk | ⟨hk,B0,h⟩
   ·rw [hk] at h1; simp at h1
   ·rw [hk] at h1
    rcases h.cells hi ht h1 with ⟨hx,_⟩ | ⟨b',u,hb',_,hfl,hux,hm⟩
    ·cases hx
    ·obtain rfl : b = b':=by simpa using hb'
     obtain ⟨u2,hu2,hm2⟩:=hm.drop (o * sz) (by omega)
     obtain ⟨u3,hu3,hm3⟩:=hm2.take (n * sz)
     refine ⟨_,c,rfl,h3,h4,hlen,.inr ⟨b,o * sz,[],rfl, ?_,hfl.flg hnu⟩⟩
     rw [Nat.zero_add] at hm3
     exact LeL.mem hnu hs hl h.flb.b (.inr ⟨rfl,B0,h.flb⟩) (fun x hx=>(hux x (hu2 x (hu3 x hx))).flb) hm3
 | _,_,.rslz id sz o n ob hi ht hle hl,B,B',κ0,x,us,hb,hk,hu,hr=>by
  obtain ⟨_,hr⟩:=hr
  have hlen : ((ob.cs.drop (o * sz)).take (n * sz)).length = n * sz:=by rw [List.length_take,List.length_drop]; omega
  rcases hr with ⟨h1,rfl,rfl,a,rfl⟩ | ⟨b,c,h1,rfl,h3,h4,h5⟩
  ·exact ⟨a,0,rfl,Nat.le_refl _,Nat.zero_le _,hlen,.inl ⟨rfl,rfl,fun _=>rfl⟩⟩
  ·rcases hk with hk | ⟨hk,B0,h⟩
   ·rw [hk] at h1; simp at h1
   ·rw [hk] at h1
    rcases h.cells hi (.inr ht) h1 with ⟨hx,_⟩ | ⟨b',u,hb',hfz,hfl,hux,hm⟩
    ·cases hx
    ·obtain rfl : b = b':=by simpa using hb'
     obtain ⟨u2,hu2,hm2⟩:=hm.drop (o * sz) (by omega)
     obtain ⟨u3,hu3,hm3⟩:=hm2.take (n * sz)
     obtain rfl:=hm3.cl_us hl
     rw [Nat.zero_add] at hm3
     exact ⟨_,c,rfl,h3,h4,hlen,.inr ⟨b,o * sz,[],rfl,hm3.cl hs hl,hs _ (hfz ht).1,rfl,rfl⟩⟩
 | _,_,.ref id off ob cs' hi ht hl,B,B',κ0,x,us,hb,hk,hu,hr=>by
  obtain ⟨_,b,h1,rfl⟩:=hr
  rcases hk with hk | ⟨hk,B0,h⟩
  ·rw [hk] at h1; simp at h1
  ·rw [hk] at h1
   rcases h.cells hi ht h1 with ⟨hx,_⟩ | ⟨b',u,hb',_,hfl,hux,hm⟩
   ·cases hx
   ·obtain rfl : b = b':=by simpa using hb'
    refine ⟨b,off,[],rfl, ?_,hfl.flg hnu⟩
    by_cases hle : off ≤ ob.cs.length
    ·obtain ⟨u2,hu2,hm2⟩:=hm.drop off hle
     rw [Nat.zero_add] at hm2
     exact LeL.mem hnu hs hl h.flb.b (.inr ⟨rfl,B0,h.flb⟩) (fun x hx=>(hux x (hu2 x hx)).flb) hm2
    ·have : cs' = []:=by
      apply List.eq_nil_of_length_eq_zero
      rw [← hl.length,List.length_drop]; omega
     subst this; rfl
 | _,_,.refz id off ob hi ht hl,B,B',κ0,x,us,hb,hk,hu,hr=>by
  obtain ⟨_,b,h1,rfl⟩:=hr
  rcases hk with hk | ⟨hk,B0,h⟩
  ·rw [hk] at h1; simp at h1
  ·rw [hk] at h1
   rcases h.cells hi (.inr ht) h1 with ⟨hx,_⟩ | ⟨b',u,hb',hfz,hfl,hux,hm⟩
   ·cases hx
   ·obtain rfl : b = b':=by simpa using hb'
    refine ⟨b,off,[],rfl, ?_,hs _ (hfz ht).1,rfl,rfl⟩
    by_cases hle : off ≤ ob.cs.length
    ·obtain ⟨u2,hu2,hm2⟩:=hm.drop off hle
     obtain rfl:=hm2.cl_us hl
     rw [Nat.zero_add] at hm2
     exact hm2.cl hs hl
    ·rw [List.drop_eq_nil_of_le (by omega)]; rfl
theorem LeL.rep (hnu : f ≠ .u) (hs : ∀ b,S b → S' b) : ∀ {vs vs' : List V},LeL H f vs vs' → ∀ {B B' : BS} {κ0 : KM} {xs : List Value} {us : List Nat},(f = .b → ∀ b,B b → B' b) →
  (κ0 = [] ∨ κ0 = κ ∧ ∃ B0,LeOk H f w S B0 S' B' κ uss) → (∀ b ∈ us,Tg f S' B' b) → RepL w S B κ0 vs xs us → RepL w S' B' [] vs' xs []
 | _,_,.nil,_,_,_,_,_,_,_,_,hr=>⟨hr.1,rfl⟩
 | _,_,.cons v v' vs vs' h1 h2,B,B',κ0,xs,us,hb,hk,hu,hr=>by
  obtain ⟨x,xs',u1,u2,rfl,rfl,h3,h4⟩:=hr
  exact ⟨x,xs',[],[],rfl,rfl,Le.sound hnu hs h1 hb hk (fun b hb=>hu b (by simp [hb])) h3,LeL.rep hnu hs h2 hb hk (fun b hb=>hu b (by simp [hb])) h4⟩
theorem LeL.mem (hnu : f ≠ .u) (hs : ∀ b,S b → S' b) : ∀ {cs cs' : List V},LeL H f cs cs' → ∀ {B B' : BS} {κ0 : KM} {b o : Nat} {us : List Nat},(f = .b → ∀ b,B b → B' b) →
  (κ0 = [] ∨ κ0 = κ ∧ ∃ B0,LeOk H f w S B0 S' B' κ uss) → (∀ b ∈ us,Tg f S' B' b) → Mem w S B κ0 cs b o us → Mem w S' B' [] cs' b o []
 | _,_,.nil,_,_,_,_,_,_,_,_,_,_=>rfl
 | _,_,.cons v v' vs vs' h1 h2,B,B',κ0,b,o,us,hb,hk,hu,hr=>by
  obtain ⟨x,u1,u2,h0,rfl,h3,h4⟩:=hr
  exact ⟨x,[],[],h0,rfl,Le.sound hnu hs h1 hb hk (fun b hb=>hu b (by simp [hb])) h3,LeL.mem hnu hs h2 hb hk (fun b hb=>hu b (by simp [hb])) h4⟩
end
end
def PCout (w w' : World) (S : BS) (r : V) (objs : List Ob) (x : Value) : Prop :=
 ∃ (κ : KM) (S' : BS) (uss : List (List Nat)),(∀ b,S b → S' b) ∧ (∀ b,S' b → S b ∨ (w.heap.size ≤ b ∧ b < w'.heap.size)) ∧ Rep w' S' (fun _=>False) κ r x [] ∧
  κ.length = objs.length ∧ (∀ (i : Nat) (ob : Ob),objs[i]? = some ob → ob.st = .own ∨ ob.st = .frz → ∃ k,kat κ i = some k) ∧ uss.length = objs.length ∧
  (∀ (i : Nat) (ob : Ob) (k : Option Nat) (us : List Nat),objs[i]? = some ob → kat κ i = some k → uss[i]? = some us → ObR w' S' (fun _=>False) κ ob k us) ∧
  uss.flatten.Nodup ∧ ∀ b ∈ uss.flatten,w.heap.size ≤ b ∧ b < w'.heap.size ∧ ¬ S' b
def PC (P : Program) (f : FuncId) (args : List V) (r : V) (objs : List Ob) : Prop :=
 Enters P f ∧ ∀ (w : World) (S B : BS) (xs : List Value),(∀ b,S b ∨ B b → b < w.heap.size) → RepL w S B [] args xs [] →
  Calls P f xs.toArray w fun e w'=>∃ x,e = .returned x ∧ Below w.heap.size w w' ∧ PCout w w' S r objs x
def PB (P : Program) (f : FuncId) (args : List V) (r : V) (objs : List Ob) : Prop :=
 Enters P f ∧ ∀ (w : World) (S B : BS) (xs : List Value),(∀ b,S b ∨ B b → b < w.heap.size) → RepL w S B [] args xs [] →
  Calls P f xs.toArray w fun e w'=>∃ x,e = .returned x ∧ Below w.heap.size w w' ∧ ∃ (κ : KM) (S' : BS) (uss : List (List Nat)),(∀ b,S b → S' b) ∧ (∀ b,S' b → S b ∨ (w.heap.size ≤ b ∧ b < w'.heap.size)) ∧ Rep w' S' B κ r x [] ∧
   κ.length = objs.length ∧ (∀ (i : Nat) (ob : Ob),objs[i]? = some ob → ob.st = .own ∨ ob.st = .frz → ∃ k,kat κ i = some k) ∧ uss.length = objs.length ∧
   (∀ (i : Nat) (ob : Ob) (k : Option Nat) (us : List Nat),objs[i]? = some ob → kat κ i = some k → uss[i]? = some us → ObR w' S' B κ ob k us) ∧
   uss.flatten.Nodup ∧ ∀ b ∈ uss.flatten,w.heap.size ≤ b ∧ b < w'.heap.size ∧ ¬ S' b
def V.fl1 : V → Prop
 | .any | .lit _ | .emp | .ptr _ _ | .sl _ _ _ _=>True
 | _=>False
def V.fl2 : V → Prop
 | .agg vs=>∀ c ∈ vs,c.fl1
 | .fn _ fs cs=>(∀ c ∈ fs,c.fl1) ∧ ∀ c ∈ cs,c.fl1
 | v=>v.fl1
theorem Rep.fl1 {w : World} {S B : BS} {κ κ' : KM} {v : V} {x : Value} {us : List Nat} (hf : v.fl1) (h : Rep w S B κ v x us) : Rep w S B κ' v x us:=by
 cases v <;> first | exact h | exact hf.elim
theorem RepL.fl1 {w : World} {S B : BS} {κ κ' : KM} : ∀ {vs : List V} {xs : List Value} {us : List Nat},(∀ v ∈ vs,v.fl1) → RepL w S B κ vs xs us → RepL w S B κ' vs xs us
 | [],_,_,_,h=>h
 | _ :: _,_,_,hf,⟨x,xs',u1,u2,h1,h2,h3,h4⟩=>⟨x,xs',u1,u2,h1,h2,h3.fl1 (hf _ (by simp)),RepL.fl1 (fun v hv=>hf v (by simp [hv])) h4⟩
theorem Rep.fl2 {w : World} {S B : BS} {κ κ' : KM} {v : V} {x : Value} {us : List Nat} (hf : v.fl2) (h : Rep w S B κ v x us) : Rep w S B κ' v x us:=by
 cases v with
 | agg vs =>
  obtain ⟨xs,h1,h2⟩:=h
  exact ⟨xs,h1,h2.fl1 hf⟩
 | fn g fs cs =>
  obtain ⟨h0,ys,zs,h1,h2,h3⟩:=h
  exact ⟨h0,ys,zs,h1,h2.fl1 hf.1,h3.fl1 hf.2⟩
 | _=>exact Rep.fl1 hf h
theorem RepL.fl2 {w : World} {S B : BS} {κ κ' : KM} : ∀ {vs : List V} {xs : List Value} {us : List Nat},(∀ v ∈ vs,v.fl2) → RepL w S B κ vs xs us → RepL w S B κ' vs xs us
 | [],_,_,_,h=>h
 | _ :: _,_,_,hf,⟨x,xs',u1,u2,h1,h2,h3,h4⟩=>⟨x,xs',u1,u2,h1,h2,h3.fl2 (hf _ (by simp)),RepL.fl2 (fun v hv=>hf v (by simp [hv])) h4⟩
def CK (P : Program) (g : FuncId) (H : List Ob) (ar : List V) (r : V) (objs : List Ob) : Prop :=
 (∃ args,LeL H .b ar args ∧ PC P g args r objs) ∨ ((∀ v ∈ ar,v.fl2) ∧ PB P g ar r objs)
theorem CK.enters {P : Program} {g : FuncId} {H : List Ob} {ar : List V} {r : V} {objs : List Ob} (h : CK P g H ar r objs) : Enters P g:=by
 rcases h with ⟨_,_,h⟩ | ⟨_,h⟩
 ·exact h.1
 ·exact h.1
mutual
def V.sh (n : Nat) : V → V
 | .ref id off=>.ref (n + id) off
 | .mp id=>.mp (n + id)
 | .rsl id sz o k=>.rsl (n + id) sz o k
 | .agg vs=>.agg (V.shL n vs)
 | .tup vs=>.tup (V.shL n vs)
 | .fn f fs cs=>.fn f (V.shL n fs) (V.shL n cs)
 | .any=>.any
 | .lit v=>.lit v
 | .emp=>.emp
 | .ptr f cs=>.ptr f cs
 | .sl f sz k cs=>.sl f sz k cs
def V.shL (n : Nat) : List V → List V
 | []=>[]
 | v :: vs=>V.sh n v :: V.shL n vs
end
def Ob.sh (n : Nat) (ob : Ob) : Ob:={ ob with cs:=V.shL n ob.cs }
mutual
theorem Rep.sh {w : World} {S B : BS} (κ κ' : KM) : ∀ {v : V} {x : Value} {us : List Nat},Rep w S B κ' v x us → Rep w S B (κ ++ κ') (v.sh κ.length) x us
 | .any,_,_,h=>h
 | .lit _,_,_,h=>h
 | .emp,_,_,h=>h
 | .ptr _ _,_,_,h=>h
 | .sl _ _ _ _,_,_,h=>h
 | .agg _,_,_,⟨xs,h1,h2⟩=>⟨xs,h1,RepL.sh κ κ' h2⟩
 | .tup _,_,_,⟨xs,h1,h2⟩=>⟨xs,h1,RepL.sh κ κ' h2⟩
 | .fn _ _ _,_,_,⟨h0,ys,zs,h1,h2,h3⟩=>⟨h0,ys,zs,h1,RepL.sh κ κ' h2,RepL.sh κ κ' h3⟩
 | .ref id off,_,_,⟨h0,b,h1,h2⟩=>⟨h0,b,by rw [Q3g (by omega),Nat.add_sub_cancel_left]; exact h1,h2⟩
 | .mp id,_,_,⟨h0,b,h1,h2⟩=>⟨h0,b,by rw [Q3g (by omega),Nat.add_sub_cancel_left]; exact h1,h2⟩
 | .rsl id sz o n,_,_,⟨h0,h1⟩=>⟨h0,by
   have e : kat (κ ++ κ') (κ.length + id) = kat κ' id:=by rw [Q3g (by omega),Nat.add_sub_cancel_left]
   rw [e]; exact h1⟩
theorem RepL.sh {w : World} {S B : BS} (κ κ' : KM) : ∀ {vs : List V} {xs : List Value} {us : List Nat},RepL w S B κ' vs xs us → RepL w S B (κ ++ κ') (V.shL κ.length vs) xs us
 | [],_,_,h=>h
 | _ :: _,_,_,⟨x,xs',u1,u2,h1,h2,h3,h4⟩=>⟨x,xs',u1,u2,h1,h2,Rep.sh κ κ' h3,RepL.sh κ κ' h4⟩
end
theorem Mem.sh {w : World} {S B : BS} (κ κ' : KM) : ∀ {cs : List V} {b o : Nat} {us : List Nat},Mem w S B κ' cs b o us → Mem w S B (κ ++ κ') (V.shL κ.length cs) b o us
 | [],_,_,_,h=>h
 | _ :: _,_,_,_,⟨x,u1,u2,h1,h2,h3,h4⟩=>⟨x,u1,u2,h1,h2,Rep.sh κ κ' h3,Mem.sh κ κ' h4⟩
theorem V.shL_nil_iff {n : Nat} {cs : List V} : V.shL n cs = [] ↔ cs = []:=by cases cs <;> simp [V.shL]
theorem ObR.sh {w : World} {S B : BS} (κ κ' : KM) {ob : Ob} {k : Option Nat} {us : List Nat} (h : ObR w S B κ' ob k us) : ObR w S B (κ ++ κ') (ob.sh κ.length) k us:=by
 obtain ⟨st,ty,cs⟩:=ob
 cases st
 case dead=>exact h
 case res=>exact h.elim
 case mp =>
  obtain ⟨b,es,ck,h1,h2,h3,h4⟩:=h
  exact ⟨b,es,ck,h1,h2,h3,h4.sh κ κ'⟩
 case frz =>
  refine ⟨h.1,h.2.imp (fun h=>⟨h.1,V.shL_nil_iff.2 h.2⟩) ?_⟩
  rintro ⟨b,arr,h1,h2,h3,h4⟩
  exact ⟨b,arr,h1,h2,h3,h4.sh κ κ'⟩
 case own =>
  refine Or.imp (fun h=>⟨h.1,V.shL_nil_iff.2 h.2.1,h.2.2⟩) ?_ h
  rintro ⟨b,arr,u,h1,h2,h3,h4⟩
  exact ⟨b,arr,u,h1,h2,h3,h4.sh κ κ'⟩
theorem Rep.up {w : World} {S B : BS} {κ κ' : KM} {v : V} {x : Value} {us : List Nat} (hk : ∀ (id : Nat) (x : Option Nat),kat κ id = some x → kat κ' id = some x)
  (h : Rep w S (fun _=>False) κ v x us) : Rep w S B κ' v x us :=
 Rep.ext κ κ' ⟨fun _ h=>h,fun _ h=>h.elim,hk,fun _ _ h=>h,fun _ _ _=>rfl⟩ v x us (fun _ _ _=>rfl) h
theorem ObR.up {w : World} {S B : BS} {κ : KM} {ob : Ob} {k : Option Nat} {us : List Nat} (h : ObR w S (fun _=>False) κ ob k us) : ObR w S B κ ob k us :=
 ObR.ext (w:=w) (w':=w) (B:=fun _=>False) ⟨fun _ h=>h,fun _ h=>h.elim,fun _ _ h=>h,fun _ _ h=>h,fun _ _ _=>rfl⟩ (fun _ _=>rfl) h
section
variable {P : Program} {E : Env} {H : List Ob} {w : World} {κ : KM} {S : BS} {uss : List (List Nat)}
theorem Hp.leok (h : Hp E H w κ S uss) : LeOk H .b w S E.B S (fun b=>E.B b ∨ b ∈ uss.flatten) κ uss where
 kl:=h.kl
 ul:=h.ul
 ob:=h.ob
 s _ h:=h
 b _ _ h:=.inl h
 t b hb:=.inr (.inr hb)
 nu:=by intro h; cases h
theorem Hp.lend (h : Hp E H w κ S uss) {vs args : List V} {xs : List Value} (hle : LeL H .b vs args) (hr : RepL w S E.B κ vs xs []) :
  RepL w S (fun b=>E.B b ∨ b ∈ uss.flatten) [] args xs [] ∧ ∀ b,S b ∨ (E.B b ∨ b ∈ uss.flatten) → b < w.heap.size:=by
 refine ⟨LeL.rep (by intro h; cases h) (fun _ h=>h) hle (fun _ _ h=>.inl h) (.inr ⟨rfl,_,h.leok⟩) (by simp) hr, ?_⟩
 rintro b (hb | hb | hb)
 ·exact h.sb b hb
 ·exact h.bnd b (.inr hb)
 ·exact (h.ow b hb).2.2.1
theorem Hp.append (h : Hp E H w κ S uss) {objs : List Ob} {κ' : KM} {uss' : List (List Nat)} (h1 : κ'.length = objs.length) (ha : ∀ (i : Nat) (ob : Ob),objs[i]? = some ob → ob.st = .own ∨ ob.st = .frz → ∃ k,kat κ' i = some k) (h2 : uss'.length = objs.length)
  (h3 : ∀ (i : Nat) (ob : Ob) (k : Option Nat) (us : List Nat),objs[i]? = some ob → kat κ' i = some k → uss'[i]? = some us → ObR w S E.B (κ ++ κ') ob k us)
  (h4 : uss'.flatten.Nodup) (h5 : ∀ b ∈ uss'.flatten,¬ S b ∧ ¬ E.B b ∧ b < w.heap.size ∧ (E.w0.heap.size ≤ b ∨ b ∈ E.M) ∧ b ∉ uss.flatten) : Hp E (H ++ objs) w (κ ++ κ') S (uss ++ uss') where
 kl:=by simp [h.kl,h1]
 al i ob a st:=by
  rcases Nat.lt_or_ge i H.length with hi | hi
  ·rw [List.getElem?_append_left hi] at a
   obtain ⟨k,hk⟩:=h.al i ob a st
   exact ⟨k,Q1R _ _ _ hk⟩
  ·rw [List.getElem?_append_right hi] at a
   obtain ⟨k,hk⟩:=ha _ ob a st
   exact ⟨k,by rw [Q3g (by rw [h.kl]; exact hi),h.kl]; exact hk⟩
 ul:=by simp [h.ul,h2]
 ob i ob k us a b c:=by
  rcases Nat.lt_or_ge i H.length with hi | hi
  ·rw [List.getElem?_append_left hi] at a
   rw [X3x (by rw [h.kl]; exact hi)] at b
   rw [List.getElem?_append_left (by rw [h.ul]; exact hi)] at c
   refine (h.ob i ob k us a b c).ext ⟨fun _ h=>h,fun _ h=>h, ?_,fun _ _ h=>h,fun _ _ _=>rfl⟩ (fun _ _=>rfl)
   exact Q1R _
  ·rw [List.getElem?_append_right hi] at a
   rw [Q3g (by rw [h.kl]; exact hi),h.kl] at b
   rw [List.getElem?_append_right (by rw [h.ul]; exact hi),h.ul] at c
   exact h3 _ ob k us a b c
 nd:=by
  rw [List.flatten_append]
  refine List.nodup_append.2 ⟨h.nd,h4, ?_⟩
  intro x hx y hy e
  subst e
  exact (h5 x hy).2.2.2.2 hx
 ow b hb:=by
  rw [List.flatten_append,List.mem_append] at hb
  rcases hb with hb | hb
  ·exact h.ow b hb
  ·obtain ⟨a1,a2,a3,a4,_⟩:=h5 b hb
   exact ⟨a1,a2,a3,a4⟩
 sb:=h.sb
 s0:=h.s0
 s1:=h.s1
 bb:=h.bb
 kp:=h.kp
 kk id x hx:=Q1R _ _ _ (h.kk id x hx)
theorem Hp.call (h : Hp E H w κ S uss) {f : FuncId} {vs args : List V} {r : V} {objs : List Ob} {xs : List Value} (hle : LeL H .b vs args) (hr : RepL w S E.B κ vs xs [])
  (hpc : PC P f args r objs) : Calls P f xs.toArray w fun e w'=>∃ x,e = .returned x ∧ Below w.heap.size w w' ∧
   ∃ κ' S' uss',(∀ b,S b → S' b) ∧ (∀ b,S' b → S b ∨ (w.heap.size ≤ b ∧ b < w'.heap.size)) ∧
    Hp E (H ++ objs.map (Ob.sh H.length)) w' (κ ++ κ') S' (uss ++ uss') ∧ Rep w' S' E.B (κ ++ κ') (r.sh H.length) x []:=by
 obtain ⟨hl,hb⟩:=h.lend hle hr
 refine (hpc.2 w S _ xs hb hl).mono ?_
 rintro e w' ⟨x,rfl,hbl,κ',S',uss',h1,h2,h3,h4,h4',h5,h6,h7,h8⟩
 refine ⟨x,rfl,hbl,κ',S',uss',h1,h2, ?_, ?_⟩
 ·refine (h.grow hbl h1 h2).append (by simpa using h4) ?_ (by simpa using h5) ?_ h7 ?_
  ·intro i ob a st
   rw [List.getElem?_map] at a
   cases ho : objs[i]? with
   | none=>rw [ho] at a; simp at a
   | some ob' =>
    rw [ho] at a
    obtain rfl : ob'.sh H.length = ob:=by simpa using a
    exact h4' i ob' ho st
  ·intro i ob k us a b c
   rw [List.getElem?_map] at a
   cases ho : objs[i]? with
   | none=>rw [ho] at a; simp at a
   | some ob' =>
    rw [ho] at a
    obtain rfl : ob'.sh H.length = ob:=by simpa using a
    rw [← h.kl]
    exact ((h6 i ob' k us ho b c).up).sh κ κ'
  ·intro b hb
   obtain ⟨a1,a2,a3⟩:=h8 b hb
   have h0:=Nat.le_trans h.kp.size a1
   exact ⟨a3,fun hB=>by have:=h.bb b hB; omega,a2,.inl h0,fun hm=>by have:=(h.ow b hm).2.2.1; omega⟩
 ·rw [← h.kl]
  exact Rep.sh κ κ' (Rep.up (fun _ _ h=>h) h3)
theorem Hp.callb (h : Hp E H w κ S uss) {f : FuncId} {vs : List V} {r : V} {objs : List Ob} {xs : List Value} (hf : ∀ v ∈ vs,v.fl2) (hr : RepL w S E.B κ vs xs [])
  (hpc : PB P f vs r objs) : Calls P f xs.toArray w fun e w'=>∃ x,e = .returned x ∧ Below w.heap.size w w' ∧
   ∃ κ' S' uss',(∀ b,S b → S' b) ∧ (∀ b,S' b → S b ∨ (w.heap.size ≤ b ∧ b < w'.heap.size)) ∧
    Hp E (H ++ objs.map (Ob.sh H.length)) w' (κ ++ κ') S' (uss ++ uss') ∧ Rep w' S' E.B (κ ++ κ') (r.sh H.length) x []:=by
 have hB : ∀ b,S b ∨ E.B b → b < w.heap.size:=fun b hb=>hb.elim (h.sb b) (fun hb=>Nat.lt_of_lt_of_le (h.bb b hb) h.kp.size)
 refine (hpc.2 w S E.B xs hB (hr.fl2 hf)).mono ?_
 rintro e w' ⟨x,rfl,hbl,κ',S',uss',h1,h2,h3,h4,h4',h5,h6,h7,h8⟩
 refine ⟨x,rfl,hbl,κ',S',uss',h1,h2, ?_, ?_⟩
 ·refine (h.grow hbl h1 h2).append (by simpa using h4) ?_ (by simpa using h5) ?_ h7 ?_
  ·intro i ob a st
   rw [List.getElem?_map] at a
   cases ho : objs[i]? with
   | none=>rw [ho] at a; simp at a
   | some ob' =>
    rw [ho] at a
    obtain rfl : ob'.sh H.length = ob:=by simpa using a
    exact h4' i ob' ho st
  ·intro i ob k us a b c
   rw [List.getElem?_map] at a
   cases ho : objs[i]? with
   | none=>rw [ho] at a; simp at a
   | some ob' =>
    rw [ho] at a
    obtain rfl : ob'.sh H.length = ob:=by simpa using a
    rw [← h.kl]
    exact (h6 i ob' k us ho b c).sh κ κ'
  ·intro b hb
   obtain ⟨a1,a2,a3⟩:=h8 b hb
   have h0:=Nat.le_trans h.kp.size a1
   exact ⟨a3,fun hB=>by have:=h.bb b hB; omega,a2,.inl h0,fun hm=>by have:=(h.ow b hm).2.2.1; omega⟩
 ·rw [← h.kl]
  exact Rep.sh κ κ' h3
theorem Hp.callk (h : Hp E H w κ S uss) {f : FuncId} {vs : List V} {r : V} {objs : List Ob} {xs : List Value} (hck : CK P f H vs r objs) (hr : RepL w S E.B κ vs xs []) :
  Calls P f xs.toArray w fun e w'=>∃ x,e = .returned x ∧ Below w.heap.size w w' ∧
   ∃ κ' S' uss',(∀ b,S b → S' b) ∧ (∀ b,S' b → S b ∨ (w.heap.size ≤ b ∧ b < w'.heap.size)) ∧
    Hp E (H ++ objs.map (Ob.sh H.length)) w' (κ ++ κ') S' (uss ++ uss') ∧ Rep w' S' E.B (κ ++ κ') (r.sh H.length) x []:=by
 rcases hck with ⟨args,h1,h2⟩ | ⟨h1,h2⟩
 ·exact h.call h1 hr h2
 ·exact h.callb h1 hr h2
theorem Hp.callp (h : Hp E H w κ S uss) {f : FuncId} {vs args : List V} {r : V} {xs : List Value} (hle : LeL H .b vs args) (hr : RepL w S E.B κ vs xs [])
  (hpc : PC P f args r []) : Calls P f xs.toArray w fun e w'=>∃ x,e = .returned x ∧ Below w.heap.size w w' ∧
   ∃ S',(∀ b,S b → S' b) ∧ (∀ b,S' b → S b ∨ (w.heap.size ≤ b ∧ b < w'.heap.size)) ∧ Hp E H w' κ S' uss ∧ Rep w' S' E.B [] r x []:=by
 obtain ⟨hl,hb⟩:=h.lend hle hr
 refine (hpc.2 w S _ xs hb hl).mono ?_
 rintro e w' ⟨x,rfl,hbl,κ',S',uss',h1,h2,h3,h4,h4',h5,h6,h7,h8⟩
 obtain rfl : κ' = []:=List.eq_nil_of_length_eq_zero (by simpa using h4)
 exact ⟨x,rfl,hbl,S',h1,h2,h.grow hbl h1 h2,Rep.up (fun _ _ h=>h) h3⟩
end
def tsz (P : Program) (t : TypeId) : Option Nat:=(P.info? t).map (·.size)
def tagg (P : Program) (t : TypeId) : Option Bool:=(P.underlying t).map (·.isRow)
def tsl (P : Program) (t : TypeId) : Option (TypeId × Nat) :=
 match P.underlying t with
 | some (.slice e)=>(P.info? e).map fun i=>(e,i.size)
 | _=>none
def tfld (P : Program) (t : TypeId) (f : Nat) : Option (Nat × Nat × Bool) :=
 match P.underlying t with
 | some (.struct fs)=>(fs[f]?).bind fun x=>(P.info? x.type).bind fun i=>(P.underlying x.type).map fun d=>(x.offset,i.size,d.isRow)
 | _=>none
def tzer (P : Program) (t : TypeId) : Option (List V):=(P.info? t).bind fun i=>i.zero.map fun z=>z.cells.toList.map V.ofVal1
def tint (P : Program) (t : TypeId) : Option IntKind :=
 match P.underlying t with
 | some (.int k)=>some k
 | _=>none
def tbool (P : Program) (t : TypeId) : Bool :=
 match P.underlying t with
 | some .bool=>true
 | _=>false
def tstring (P : Program) (t : TypeId) : Bool :=
 match P.underlying t with
 | some .string=>true
 | _=>false
def tptr (P : Program) (t : TypeId) : Bool :=
 match P.underlying t with
 | some (.pointer _)=>true
 | _=>false
def ibin (op : BinOp) (k : IntKind) (x y : Int) : Option Value :=
 match op with
 | .add=>some (.int k (k.wrap (x + y)))
 | .sub=>some (.int k (k.wrap (x - y)))
 | .mul=>some (.int k (k.wrap (x * y)))
 | .quo=>if y = 0 then none else some (.int k (k.wrap (x.tdiv y)))
 | .rem=>if y = 0 then none else some (.int k (x.tmod y))
 | .eql=>some (.bool (decide (x = y)))
 | .neq=>some (.bool (decide (x ≠ y)))
 | .lss=>some (.bool (decide (x < y)))
 | .leq=>some (.bool (decide (x ≤ y)))
 | .gtr=>some (.bool (decide (y < x)))
 | .geq=>some (.bool (decide (y ≤ x)))
 | .and=>some (.int k (k.wrap ((BitVec.ofInt k.bits x &&& BitVec.ofInt k.bits y).toNat)))
 | .xor=>some (.int k (k.wrap ((BitVec.ofInt k.bits x ^^^ BitVec.ofInt k.bits y).toNat)))
 | _=>none
def sbin (op : BinOp) (x y : ByteArray) : Option Value :=
 match op with
 | .add=>if x.size + y.size ≤ 9223372036854775807 then some (.string (x ++ y)) else none
 | .eql=>some (.bool (x.toList == y.toList))
 | .neq=>some (.bool (!(x.toList == y.toList)))
 | _=>none
def V.ite (b : Bool) (x y : V) : V:=if b then x else y
def V.nu : V → Prop
 | .sl .u _ _ _ | .ptr .u _ | .agg _ | .tup _=>False
 | _=>True
def ldC (P : Program) (t : TypeId) (cs : List V) (K : V → Prop) : Prop :=
 ∃ n,tsz P t = some n ∧ 0 < n ∧ n ≤ cs.length ∧ ((tagg P t = some true ∧ K (.agg (cs.take n))) ∨ (tagg P t = some false ∧ ∃ c,cs[0]? = some c ∧ K c))
def ldP (P : Program) (t : TypeId) (v : V) (H : List Ob) (K : V → Prop) : Prop :=
 match v with
 | .ptr _ cs=>ldC P t cs K
 | .ref id off=>∃ ob,H[id]? = some ob ∧ (ob.st = .own ∨ ob.st = .frz) ∧ (∀ n,tsz P t = some n → ∀ c ∈ (ob.cs.drop off).take n,c.nu) ∧ ldC P t (ob.cs.drop off) K
 | _=>False
def pickC (c x y : V) (K : V → Prop) : Prop:=∃ b,c = .lit (.bool b) ∧ K (V.ite b x y)
def nilC (v : V) (K : V → Prop) : Prop :=
 match v with
 | .ptr _ _ | .ref _ _=>K v
 | .fn (.func _) _ _=>K v
 | _=>False
def binC (P : Program) (op : BinOp) (t : TypeId) (v u : V) (K : V → Prop) : Prop :=
 match v,u with
 | .lit (.int k x),.lit (.int k' y)=>(k = k' ∧ ∃ r,ibin op k x y = some r ∧ K (.lit r)) ∨ (k ≠ k' ∧ op = .shr ∧ 0 ≤ y ∧ K (.lit (.int k (x.fdiv (2 ^ (min y.toNat k.bits))))))
 | .lit (.bool x),.lit (.bool y)=>tbool P t = true ∧ ((op = .eql ∧ K (.lit (.bool (x == y)))) ∨ (op = .neq ∧ K (.lit (.bool (x != y)))))
 | .lit (.string x),.lit (.string y)=>tstring P t = true ∧ ∃ r,sbin op x y = some r ∧ K (.lit r)
 | .ptr _ _,.lit (.pointer none) | .ref _ _,.lit (.pointer none)=>tptr P t = true ∧ ((op = .eql ∧ K (.lit (.bool false))) ∨ (op = .neq ∧ K (.lit (.bool true))))
 | .lit (.pointer none),.lit (.pointer none)=>tptr P t = true ∧ ((op = .eql ∧ K (.lit (.bool true))) ∨ (op = .neq ∧ K (.lit (.bool false))))
 | .lit (.slice b _ _),.lit (.slice none 0 0)=>(tsl P t).isSome = true ∧ ((op = .eql ∧ K (.lit (.bool b.isNone))) ∨ (op = .neq ∧ K (.lit (.bool (!b.isNone)))))
 | .sl _ _ n _,.lit (.slice none 0 0) | .rsl _ _ _ n,.lit (.slice none 0 0)=>((tsl P t).isSome = true ∧ 0 < n) ∧ ((op = .eql ∧ K (.lit (.bool false))) ∨ (op = .neq ∧ K (.lit (.bool true))))
 | _,_=>False
def nlO (y : Operand) (v : V) : V :=
 match y with
 | .const (.slice none 0 0)=>.lit (.slice none 0 0)
 | _=>v
def unC (op : UnOp) (v : V) (K : V → Prop) : Prop :=
 match op,v with
 | .not,.lit (.bool b)=>K (.lit (.bool (!b)))
 | .neg,.lit (.int k n)=>K (.lit (.int k (k.wrap (-n))))
 | _,_=>False
def cvC (P : Program) (a b : TypeId) (v : V) (K : V → Prop) : Prop :=
 match v with
 | .lit (.int k n)=>∃ k0 k1,tint P a = some k0 ∧ tint P b = some k1 ∧ K (.lit (.int k1 (k1.wrap n)))
 | .lit (.string s)=>tstring P a = true ∧ tstring P b = true ∧ K (.lit (.string s))
 | _=>False
def bndC (n : Nat) (lo hi : Option V) (K : Nat → Nat → Prop) : Prop :=
 ∃ l h,(lo = none ∧ l = 0 ∨ ∃ k,lo = some (.lit (.int k l))) ∧ (hi = none ∧ h = (n : Int) ∨ ∃ k,hi = some (.lit (.int k h))) ∧ 0 ≤ l ∧ l ≤ h ∧ h ≤ n ∧ K l.toNat h.toNat
def slcC (P : Program) (t : TypeId) (v : V) (lo hi : Option V) (K : V → Prop) : Prop :=
 match v with
 | .sl f sz n cs=>∃ e,tsl P t = some (e,sz) ∧ bndC n lo hi fun l h=>K (.sl f sz (h - l) ((cs.drop (l * sz)).take ((h - l) * sz)))
 | .rsl id sz o n=>∃ e,tsl P t = some (e,sz) ∧ bndC n lo hi fun l h=>(l < h ∧ K (.rsl id sz (o + l) (h - l))) ∨ (l = h ∧ (lo.isSome = true ∨ o ≠ 0) ∧ K (.sl .s sz 0 [])) ∨ (l = h ∧ l = 0 ∧ o = 0 ∧ lo = none ∧ K (.rsl id sz 0 0))
 | .emp=>∃ e sz,tsl P t = some (e,sz) ∧ bndC 0 lo hi fun l h=>K .emp
 | .lit (.string s)=>tstring P t = true ∧ bndC s.size lo hi fun l h=>K (.lit (.string (s.extract l h)))
 | _=>False
def faC (P : Program) (t : TypeId) (v : V) (f : Nat) (K : V → Prop) : Prop :=
 ∃ off sz a,tfld P t f = some (off,sz,a) ∧ sz ≠ 0 ∧
  match v with
  | .ptr g cs=>off ≤ cs.length ∧ K (.ptr g (cs.drop off))
  | .ref id o=>K (.ref id (o + off))
  | _=>False
def fdC (P : Program) (t : TypeId) (v : V) (f : Nat) (K : V → Prop) : Prop :=
 ∃ off sz a,tfld P t f = some (off,sz,a) ∧
  match v with
  | .agg vs=>(a = true ∧ off + sz ≤ vs.length ∧ K (.agg ((vs.drop off).take sz))) ∨ (a = false ∧ ∃ c,vs[off]? = some c ∧ K c)
  | _=>False
def iaC (P : Program) (t : TypeId) (v i : V) (K : V → Prop) : Prop :=
 ∃ k j,i = .lit (.int k j) ∧ 0 ≤ j ∧
  match v with
  | .sl f sz n cs=>∃ e,tsl P t = some (e,sz) ∧ j < n ∧ K (.ptr f (cs.drop (j.toNat * sz)))
  | .rsl id sz o n=>∃ e,tsl P t = some (e,sz) ∧ j < n ∧ K (.ref id ((o + j.toNat) * sz))
  | _=>False
def ixC (P : Program) (t : TypeId) (v i : V) (K : V → Prop) : Prop :=
 ∃ k j,i = .lit (.int k j) ∧ 0 ≤ j ∧
  match v with
  | .lit (.string s)=>tstring P t = true ∧ ∃ b,s[j.toNat]? = some b ∧ K (.lit (.int .u8 b.toNat))
  | _=>False
def exC (v : V) (i : Nat) (K : V → Prop) : Prop :=
 match v with
 | .tup vs=>∃ c,vs[i]? = some c ∧ K c
 | _=>False
def V.cells : V → Option (List V)
 | .agg vs=>some vs
 | .any | .tup _=>none
 | v=>some [v]
def tplc (P : Program) (t : TypeId) : Option (List (Nat × Nat)) :=
 match P.underlying t with
 | some (.struct fs)=>fs.toList.mapM (fun f=>(P.info? f.type).map fun i=>(f.offset,i.size))
 | _=>none
def fillV (pl : List (Nat × Nat)) : List (Nat × V) → List V → (List V → Prop) → Prop
 | [],z,K=>K z
 | (i,v) :: r,z,K=>∃ off sz cs,pl[i]? = some (off,sz) ∧ v.cells = some cs ∧ cs.length = sz ∧ off + sz ≤ z.length ∧
   fillV pl r (z.take off ++ cs ++ z.drop (off + sz)) K
def bldC (P : Program) (t : TypeId) (parts : List (Nat × V)) (K : V → Prop) : Prop :=
 ∃ pl z,tplc P t = some pl ∧ tzer P t = some z ∧ fillV pl parts z fun cs=>K (.agg cs)
def lenC (P : Program) (t : TypeId) (v : V) (K : V → Prop) : Prop :=
 match v with
 | .sl _ _ n _=>(tsl P t).isSome = true ∧ K (.lit (.int .i64 n))
 | .rsl _ _ _ n=>(tsl P t).isSome = true ∧ K (.lit (.int .i64 n))
 | .emp=>(tsl P t).isSome = true ∧ K (.lit (.int .i64 0))
 | .lit (.string s)=>tstring P t = true ∧ K (.lit (.int .i64 s.size))
 | _=>False
def mmC (m : Int → Int → Int) (v u : V) (K : V → Prop) : Prop :=
 match v,u with
 | .lit (.int k a),.lit (.int _ b)=>K (.lit (.int k (m a b)))
 | _,_=>False
def mnI (a b : Int) : Int:=if b < a then b else a
def mxI (a b : Int) : Int:=if b > a then b else a
def callC (P : Program) (f : V) (vs : List V) (H : List Ob) (K : V → Prop) : Prop :=
 match f with
 | .fn (.func g) fs cs=>∃ args r,LeL H .b (fs ++ vs ++ cs) args ∧ PC P g args r [] ∧ K r
 | _=>False
def qC (P : Program) (op : Op) (ρ : Operand → V) (H : List Ob) (K : V → Prop) : Prop :=
 match op with
 | .move x | .assign x=>K (ρ x)
 | .pick c x y=>pickC (ρ c) (ρ x) (ρ y) K
 | .build t parts=>bldC P t (parts.toList.map fun p=>(p.1,ρ p.2)) K
 | .load t a=>ldP P t (ρ a) H K
 | .nilCheck x=>nilC (ρ x) K
 | .binOp op t x y _=>binC P op t (ρ x) (nlO y (ρ y)) K
 | .unOp op _ x=>unC op (ρ x) K
 | .convert a b x=>cvC P a b (ρ x) K
 | .makeFunc f fs cs=>K (.fn f (fs.toList.map ρ) (cs.toList.map ρ))
 | .slice t x lo hi none=>slcC P t (ρ x) (lo.map ρ) (hi.map ρ) K
 | .fieldAddr t x f=>faC P t (ρ x) f K
 | .field t x f=>fdC P t (ρ x) f K
 | .indexAddr t x i=>iaC P t (ρ x) (ρ i) K
 | .index t x i=>ixC P t (ρ x) (ρ i) K
 | .extract x i=>exC (ρ x) i K
 | .call { callee:=.builtin .len,args,argTypes }=>∃ x t,args = #[x] ∧ argTypes = #[t] ∧ lenC P t (ρ x) K
 | .call { callee:=.builtin .min,args,argTypes:=_ }=>∃ x y,args = #[x,y] ∧ mmC mnI (ρ x) (ρ y) K
 | .call { callee:=.builtin .max,args,argTypes:=_ }=>∃ x y,args = #[x,y] ∧ mmC mxI (ρ x) (ρ y) K
 | .call { callee:=.value f,args,argTypes:=_ }=>callC P (ρ f) (args.toList.map ρ) H K
 | _=>False
section
variable {P : Program} {E : Env} {H : List Ob} {w : World} {κ : KM} {S : BS} {uss : List (List Nat)} {o : Oper} {a : Act}
def Yld (P : Program) (E : Env) (H : List Ob) (o : Oper) (a : Act) (w : World) (κ : KM) (S : BS) (uss : List (List Nat)) (v : V) : Prop :=
 ∀ (Kr : Act → World → Prop) (Q : Exit → Act → World → Prop),(∀ x w' S',Below w.heap.size w w' → (∀ b,S b → S' b) → (∀ b,S' b → S b ∨ (w.heap.size ≤ b ∧ b < w'.heap.size)) →
  Hp E H w' κ S' uss → Rep w' S' E.B κ v x [] → Kr (a.put o.dst x) w') → o.wp P a w Kr Q
theorem Yld.of_run {v : V} {x : Value} (hp : Hp E H w κ S uss) (hr : (execOp a.eval o).run P w = .ok (.value x) w) (h : Rep w S E.B κ v x []) : Yld P E H o a w κ S uss v:=by
 intro Kr Q hK
 unfold Oper.wp
 rw [hr]
 exact hK x w S (Below.refl _ _) (fun _ h=>h) (fun _ h=>.inl h) hp h
theorem Mem.vals {S B : BS} {κ : KM} : ∀ {cs : List V} {b o : Nat} {us : List Nat},Mem w S B κ cs b o us → ∃ xs : List Value,xs.length = cs.length ∧ w.rangeAt b o xs ∧ RepL w S B κ cs xs us
 | [],b,o,us,h=>⟨[],rfl,fun j v h=>by simp at h,rfl,h⟩
 | c :: cs,b,o,us,⟨x,u1,u2,h1,h2,h3,h4⟩=>by
  obtain ⟨xs,h5,h6,h7⟩:=Mem.vals h4
  refine ⟨x :: xs,by simp [h5], ?_,x,xs,u1,u2,rfl,h2,h3,h7⟩
  intro j v hj
  cases j with
  | zero=>simp at hj; subst hj; exact h1
  | succ j=>have:=h6 j v (by simpa using hj); rwa [Nat.add_assoc,Nat.add_comm 1 j] at this
theorem RepL.length {S B : BS} {κ : KM} : ∀ {vs : List V} {xs : List Value} {us : List Nat},RepL w S B κ vs xs us → xs.length = vs.length
 | [],_,_,⟨h,_⟩=>by subst h; rfl
 | _ :: _,_,_,⟨x,xs',u1,u2,h1,h2,h3,h4⟩=>by subst h1; simp [RepL.length h4]
theorem RepL.get {S B : BS} {κ : KM} : ∀ {vs : List V} {xs : List Value} {us : List Nat},RepL w S B κ vs xs us → ∀ {i : Nat} {v : V},vs[i]? = some v → ∃ x u,xs[i]? = some x ∧ (∀ b ∈ u,b ∈ us) ∧ Rep w S B κ v x u
 | [],_,_,_,i,v,h=>by simp at h
 | c :: vs,_,_,⟨x,xs',u1,u2,h1,h2,h3,h4⟩,i,v,h=>by
  subst h1; subst h2
  cases i with
  | zero=>simp at h; subst h; exact ⟨x,u1,by simp,fun b hb=>by simp [hb],h3⟩
  | succ i =>
   obtain ⟨y,u,e1,e2,e3⟩:=RepL.get h4 (i:=i) (v:=v) (by simpa using h)
   exact ⟨y,u,by simpa using e1,fun b hb=>by simp [e2 b hb],e3⟩
theorem RepL.append {S B : BS} {κ : KM} : ∀ {vs ws : List V} {xs : List Value} {us : List Nat},
  RepL w S B κ (vs ++ ws) xs us ↔ ∃ x1 x2 u1 u2,xs = x1 ++ x2 ∧ us = u1 ++ u2 ∧ RepL w S B κ vs x1 u1 ∧ RepL w S B κ ws x2 u2
 | [],ws,xs,us=>by
  constructor
  ·intro h; exact ⟨[],xs,[],us,rfl,rfl,⟨rfl,rfl⟩,h⟩
  ·rintro ⟨x1,x2,u1,u2,rfl,rfl,⟨rfl,rfl⟩,h⟩; exact h
 | v :: vs,ws,xs,us=>by
  constructor
  ·rintro ⟨x,xs',u1,u2,rfl,rfl,h1,h2⟩
   obtain ⟨y1,y2,u3,u4,rfl,rfl,h3,h4⟩:=RepL.append.1 h2
   exact ⟨x :: y1,y2,u1 ++ u3,u4,rfl,by simp,⟨x,y1,u1,u3,rfl,rfl,h1,h3⟩,h4⟩
  ·rintro ⟨x1,x2,u1,u2,rfl,rfl,⟨x,xs',u3,u4,rfl,rfl,h1,h2⟩,h3⟩
   exact ⟨x,xs' ++ x2,u3,u4 ++ u2,rfl,by simp,h1,RepL.append.2 ⟨xs',x2,u4,u2,rfl,rfl,h2,h3⟩⟩
theorem RepL.nils {S B : BS} {κ : KM} {vs ws : List V} {xs ys : List Value} (h1 : RepL w S B κ vs xs []) (h2 : RepL w S B κ ws ys []) : RepL w S B κ (vs ++ ws) (xs ++ ys) [] :=
 RepL.append.2 ⟨xs,ys,[],[],rfl,rfl,h1,h2⟩
theorem RepL.of_map {S B : BS} {κ : KM} {ρ : Operand → V} {ev : Operand → Value} (h : ∀ x,Rep w S B κ (ρ x) (ev x) []) : ∀ xs : List Operand,RepL w S B κ (xs.map ρ) (xs.map ev) []
 | []=>⟨rfl,rfl⟩
 | x :: xs=>⟨_,_,[],[],rfl,rfl,h x,RepL.of_map h xs⟩
theorem Rep.nu_us {S B : BS} {κ : KM} {v : V} (hn : v.nu) {x : Value} {us : List Nat} (h : Rep w S B κ v x us) : us = []:=by
 cases v with
 | any=>exact h
 | lit v=>exact h.1
 | emp=>exact h.1
 | ptr f cs =>
  obtain ⟨b,o,u,e,h6,h7⟩:=h
  cases f
  ·exact h7.2.2
  ·exact h7.2.2
  ·exact hn.elim
 | sl f sz n cs =>
  obtain ⟨a,c,h1,h2,h3,h4,h5⟩:=h
  rcases h5 with ⟨_,h⟩ | ⟨b,o,u,e,h6,h7⟩
  ·exact h.1
  ·cases f
   ·exact h7.2.2
   ·exact h7.2.2
   ·exact hn.elim
 | agg vs=>exact hn.elim
 | tup vs=>exact hn.elim
 | fn f fs cs=>exact h.1
 | ref id off=>exact h.1
 | mp id=>exact h.1
 | rsl id sz o n=>exact h.1
theorem RepL.nu_us {S B : BS} {κ : KM} : ∀ {vs : List V} (hn : ∀ v ∈ vs,v.nu) {xs : List Value} {us : List Nat} (h : RepL w S B κ vs xs us),us = []
 | [],_,_,_,h=>h.2
 | v :: vs,hn,_,_,⟨x,xs',u1,u2,h1,h2,h3,h4⟩=>by
  rw [h2,(Rep.nu_us (hn v (by simp)) h3),RepL.nu_us (fun v h=>hn v (by simp [h])) h4]; rfl
theorem RepL.take {S B : BS} {κ : KM} {vs : List V} {xs : List Value} {us : List Nat} (n : Nat) (h : RepL w S B κ vs xs us) :
  ∃ u,(∀ b ∈ u,b ∈ us) ∧ RepL w S B κ (vs.take n) (xs.take n) u:=by
 have hl:=h.length
 rw [← List.take_append_drop n vs] at h
 obtain ⟨x1,x2,u1,u2,rfl,rfl,h1,h2⟩:=RepL.append.1 h
 refine ⟨u1,fun b hb=>by simp [hb], ?_⟩
 have e : (x1 ++ x2).take n = x1:=by
  have:=h1.length
  rw [List.length_take] at this
  rw [List.length_append] at hl
  rw [List.take_append,List.take_of_length_le (by omega)]
  have h3:=h2.length
  rw [List.length_drop] at h3
  rcases Nat.le_total vs.length n with hv | hv
  ·have : x2 = []:=List.eq_nil_of_length_eq_zero (by omega)
   simp [this]
  ·have : n - x1.length = 0:=by omega
   simp [this]
 rw [e]; exact h1
theorem RepL.drop {S B : BS} {κ : KM} {vs : List V} {xs : List Value} {us : List Nat} (n : Nat) (h : RepL w S B κ vs xs us) :
  ∃ u,(∀ b ∈ u,b ∈ us) ∧ RepL w S B κ (vs.drop n) (xs.drop n) u:=by
 have hl:=h.length
 rw [← List.take_append_drop n vs] at h
 obtain ⟨x1,x2,u1,u2,rfl,rfl,h1,h2⟩:=RepL.append.1 h
 refine ⟨u2,fun b hb=>by simp [hb], ?_⟩
 have h1':=h1.length
 rw [List.length_take] at h1'
 have h2':=h2.length
 rw [List.length_drop] at h2'
 have e : (x1 ++ x2).drop n = x2:=by
  rw [List.drop_append]
  rcases Nat.le_total vs.length n with hv | hv
  ·have hx : x2 = []:=List.eq_nil_of_length_eq_zero (by omega)
   rw [List.drop_eq_nil_of_le (by omega),hx]; simp
  ·rw [List.drop_eq_nil_of_le (by omega)]
   have : n - x1.length = 0:=by omega
   simp [this]
 rw [e]; exact h2
theorem RepL.in {S B B' : BS} {κ κ' : KM} (hb : ∀ b,B b → B' b) (hk : ∀ (id : Nat) (x : Option Nat),kat κ id = some x → kat κ' id = some x) {vs : List V} {xs : List Value} {us : List Nat}
  (h : RepL w S B κ vs xs us) : RepL w S B' κ' vs xs us :=
 RepL.ext κ κ' ⟨fun _ h=>h,hb,hk,fun _ _ h=>h,fun _ _ _=>rfl⟩ vs xs us (fun _ _ _=>rfl) h
theorem Q8o {t : TypeId} {b : Bool} (h : tagg P t = some b) (w : World) : (isAgg t).run P w = .ok b w:=by
 unfold tagg at h
 cases hu : P.underlying t with
 | none=>simp [hu] at h
 | some d =>
  obtain rfl : d.isRow = b:=by simpa [hu] using h
  unfold isAgg
  rw [Sem.run_bind,run_underlying hu w]
  cases d <;> simp_all [TypeDesc.isRow]
theorem Q2g {t : TypeId} {n : Nat} (h : tsz P t = some n) (w : World) : (sizeOf t).run P w = .ok n w:=by
 unfold tsz at h
 cases hi : P.info? t with
 | none=>simp [hi] at h
 | some i =>
  obtain rfl : i.size = n:=by simpa [hi] using h
  simp [sizeOf,typeInfo,hi]
theorem X7f {t : TypeId} {b : Bool} (h : tagg P t = some b) : ∃ d,P.underlying t = some d ∧ d.isRow = b:=by
 unfold tagg at h
 cases hu : P.underlying t with
 | none=>simp [hu] at h
 | some d=>exact ⟨d,rfl,by simpa [hu] using h⟩
theorem X3j {t : TypeId} {cs : List V} {K : V → Prop} (h : ldC P t cs K) : ∃ v,K v ∧ ∀ {w : World} {S B : BS} {κ : KM} {b off : Nat} {xs : List Value} {us : List Nat},
  xs.length = cs.length → w.rangeAt b off xs → RepL w S B κ cs xs us → ∃ x u,(Instr.loadAt t (.pointer (some ⟨b,off,none⟩))).run P w = .ok x w ∧ (∀ b ∈ u,b ∈ us) ∧
   (us = [] ∨ (∀ n,tsz P t = some n → ∀ c ∈ cs.take n,c.nu) → u = []) ∧ Rep w S B κ v x u:=by
 obtain ⟨n,hn,hpos,hle,⟨ha,hK⟩ | ⟨ha,c,hc,hK⟩⟩:=h
 ·refine ⟨_,hK, ?_⟩
  intro w S B κ b off xs us hl hr hrep
  obtain ⟨d,hu,hd⟩:=X7f ha
  obtain ⟨u,hu1,hu2⟩:=hrep.take n
  have hr' : w.rangeAt b off (xs.take n):=fun j v hj=>by
   rw [List.getElem?_take] at hj
   split at hj
   ·exact hr j v hj
   ·cases hj
  refine ⟨.agg (xs.take n).toArray,u, ?_,hu1, ?_,_,rfl,by simpa using hu2⟩
  ·exact run_loadAt_mid w b off t (xs.take n) d hr' hu hd (by unfold tsz at hn; rw [hn,List.length_take,hl]; simp [Nat.min_eq_left hle])
  ·rintro (rfl | hnu)
   ·cases u with
    | nil=>rfl
    | cons y ys=>have:=hu1 y (by simp); simp at this
   ·exact RepL.nu_us (hnu n hn) hu2
 ·refine ⟨c,hK, ?_⟩
  intro w S B κ b off xs us hl hr hrep
  obtain ⟨x,u,h1,h2,h3⟩:=hrep.get hc
  have hx:=hr 0 x h1
  rw [Nat.add_zero] at hx
  refine ⟨x,u, ?_,h2, ?_,h3⟩
  ·simp [Instr.loadAt,Instr.sureAddr,loadVar,Q8o ha w,hx]
  ·rintro (rfl | hnu)
   ·cases u with
    | nil=>rfl
    | cons y ys=>have:=h2 y (by simp); simp at this
   ·refine Rep.nu_us ?_ h3
    cases n with
    | zero=>omega
    | succ n =>
     cases cs with
     | nil=>simp at hc
     | cons c' cs'=>simp at hc; subst hc; exact hnu _ hn c' (by simp)
end
section
variable {P : Program}
theorem Y3u {c x y : V} {K : V → Prop} (h : pickC c x y K) : ∃ v,K v ∧ ∀ {w : World} {S B : BS} {κ : KM} {cv xv yv : Value},
  Rep w S B κ c cv [] → Rep w S B κ x xv [] → Rep w S B κ y yv [] → ∃ z,(do pure (Next.value (if ← asBool cv then xv else yv)) : Sem Next).run P w = .ok (.value z) w ∧ Rep w S B κ v z []:=by
 obtain ⟨b,rfl,hK⟩:=h
 refine ⟨_,hK, ?_⟩
 rintro w S B κ cv xv yv ⟨_,rfl,_⟩ hx hy
 refine ⟨if b then xv else yv,by simp [asBool], ?_⟩
 cases b
 ·exact hy
 ·exact hx
theorem X9M {v : V} {K : V → Prop} (h : nilC v K) {o : Oper} {xo : Operand} (ho : o.op = .nilCheck xo) : K v ∧ ∀ {w : World} {S B : BS} {κ : KM} {a : Act},
  Rep w S B κ v (a.eval xo) [] → (execOp a.eval o).run P w = .ok (.value (a.eval xo)) w:=by
 unfold nilC at h
 split at h
 ·refine ⟨h, ?_⟩
  rintro w S B κ a ⟨b,o',u,h1,_⟩
  simp [execOp,ho,h1]
 ·refine ⟨h, ?_⟩
  rintro w S B κ a ⟨_,b,h0,h1⟩
  simp [execOp,ho,h1]
 ·refine ⟨h, ?_⟩
  rintro w S B κ a ⟨_,ys,zs,h1,_⟩
  simp [execOp,ho,h1]
 ·exact h.elim
theorem Y5C {op : BinOp} {k : IntKind} {x y : Int} {r : Value} (h : ibin op k x y = some r) (t : TypeId) (w : World) : (binOp op t (.int k x) (.int k y)).run P w = .ok r w:=by
  cases op <;> simp only [ibin] at h <;> first
    | (simp at h; done)
    | (simp only [Option.some.injEq] at h; subst h; simp [binOp,Op.intArith,Op.intCmp,Op.intBits]; done)
    | (split at h
       · simp at h
       · simp only [Option.some.injEq] at h; subst h; simp [binOp,Op.intDiv, *])
    | (simp only [Option.some.injEq] at h; subst h; simp [binOp,Op.intArith,Op.intCmp,bne,BEq.beq])
theorem Y9N {op : BinOp} {k : IntKind} {x y : Int} {r : Value} (h : ibin op k x y = some r) : r.oneCell' = true:=by
  cases op <;> simp only [ibin] at h <;> first
    | (simp at h; done)
    | (simp only [Option.some.injEq] at h; subst h; rfl)
    | (split at h
       · simp at h
       · simp only [Option.some.injEq] at h; subst h; rfl)
theorem Y5B {op : BinOp} {x y : ByteArray} {r : Value} (h : sbin op x y = some r) (t : TypeId) (w : World) : (binOp op t (.string x) (.string y)).run P w = .ok r w:=by
  cases op <;> simp only [sbin] at h <;> first
    | (simp at h; done)
    | (simp only [Option.some.injEq] at h; subst h; simp [binOp,Op.stringOp]; done)
    | (split at h
       · simp only [Option.some.injEq] at h; subst h
         have : ¬ ((x.size + y.size : Nat) : Int) > IntKind.i64.max:=by
           show ¬ ((x.size + y.size : Nat) : Int) > 9223372036854775807
           omega
         simp only [binOp,Op.stringOp,Sem.run_ite,this,if_false,Sem.run_pure]
       · simp at h)
theorem Y9q {op : BinOp} {x y : ByteArray} {r : Value} (h : sbin op x y = some r) : r.oneCell' = true:=by
  cases op <;> simp only [sbin] at h <;> first
    | (simp at h; done)
    | (simp only [Option.some.injEq] at h; subst h; rfl)
    | (split at h
       · simp only [Option.some.injEq] at h; subst h; rfl
       · simp at h)
theorem Q4g {t : TypeId} (h : tptr P t = true) : P.underlying t = some (.pointer (P.pointee t)):=by
 unfold tptr at h; split at h
 ·rename_i e hu; simp [Program.pointee,hu]
 ·cases h
theorem X2c {t : TypeId} (h : P.underlying t = some (.pointer (P.pointee t))) (p : Option Addr) (w : World) : (binOp .eql t (.pointer p) (.pointer none)).run P w = .ok (.bool p.isNone) w:=by
 have e : binOp .eql t (.pointer p) (.pointer none) = (do pure (.bool (← Op.equal t (.pointer p) (.pointer none)))):=rfl
 rw [e,Sem.run_bind,run_equal_pointer_nil w t p h]; rfl
theorem X2b {t : TypeId} (h : P.underlying t = some (.pointer (P.pointee t))) (p : Option Addr) (w : World) : (binOp .neq t (.pointer p) (.pointer none)).run P w = .ok (.bool (!p.isNone)) w:=by
 have e : binOp .neq t (.pointer p) (.pointer none) = (do pure (.bool (!(← Op.equal t (.pointer p) (.pointer none))))):=rfl
 rw [e,Sem.run_bind,run_equal_pointer_nil w t p h]; rfl
theorem Q8q {t e : TypeId} (h : P.underlying t = some (.slice e)) (a : Option Addr) (l c : Nat) (w : World) : (binOp .eql t (.slice a l c) (.slice none 0 0)).run P w = .ok (.bool a.isNone) w:=by
 have e : binOp .eql t (.slice a l c) (.slice none 0 0) = (do pure (.bool (← Op.equal t (.slice a l c) (.slice none 0 0)))):=rfl
 rw [e,Sem.run_bind,run_equal_slice_nil w t _ a l c h]; rfl
theorem Q8n {t e : TypeId} (h : P.underlying t = some (.slice e)) (a : Option Addr) (l c : Nat) (w : World) : (binOp .neq t (.slice a l c) (.slice none 0 0)).run P w = .ok (.bool (!a.isNone)) w:=by
 have e : binOp .neq t (.slice a l c) (.slice none 0 0) = (do pure (.bool (!(← Op.equal t (.slice a l c) (.slice none 0 0))))):=rfl
 rw [e,Sem.run_bind,run_equal_slice_nil w t _ a l c h]; rfl
theorem Z1t {w : World} {S B : BS} {κ : KM} {a : Act} {v : V} {y : Operand} (h : Rep w S B κ v (a.eval y) []) : Rep w S B κ (nlO y v) (a.eval y) []:=by
 unfold nlO
 split
 ·exact ⟨rfl,rfl,rfl⟩
 ·exact h
theorem Q6I {t : TypeId} (h : tbool P t = true) : P.underlying t = some .bool:=by
 unfold tbool at h; split at h
 ·assumption
 ·cases h
theorem Q0V {t : TypeId} (h : tstring P t = true) : P.underlying t = some .string:=by
 unfold tstring at h; split at h
 ·assumption
 ·cases h
theorem Q2f {t : TypeId} {k : IntKind} (h : tint P t = some k) : P.underlying t = some (.int k):=by
 unfold tint at h; split at h
 ·simp at h; subst h; assumption
 ·cases h
theorem Q0h {t e : TypeId} {n : Nat} (h : tsl P t = some (e,n)) : P.underlying t = some (.slice e) ∧ tsz P e = some n:=by
 unfold tsl at h; split at h
 ·rename_i e' hu
  cases hi : P.info? e' with
  | none=>simp [hi] at h
  | some i =>
   simp only [hi,Option.map_some,Option.some.injEq,Prod.mk.injEq] at h
   obtain ⟨rfl,rfl⟩:=h
   exact ⟨hu,by simp [tsz,hi]⟩
 ·cases h
theorem Q8h {t : TypeId} {f off n : Nat} {b : Bool} (h : tfld P t f = some (off,n,b)) :
  ∃ fs x,P.underlying t = some (.struct fs) ∧ fs[f]? = some x ∧ x.offset = off ∧ tsz P x.type = some n ∧ tagg P x.type = some b:=by
 unfold tfld at h; split at h
 ·rename_i fs hu
  cases hx : fs[f]? with
  | none=>simp [hx] at h
  | some x =>
   cases hi : P.info? x.type with
   | none=>simp [hx,hi] at h
   | some i =>
    cases hd : P.underlying x.type with
    | none=>simp [hx,hi,hd] at h
    | some d =>
     simp only [hx,hi,hd,Option.bind_some,Option.map_some,Option.some.injEq,Prod.mk.injEq] at h
     obtain ⟨h1,h2,h3⟩:=h
     exact ⟨fs,x,hu,hx,h1,by simp [tsz,hi,h2],by simp [tagg,hd,h3]⟩
 ·cases h
theorem Q0S {op : BinOp} {t : TypeId} {x y : Operand} {a b : Value} (h1 : a ≠ .nilIface) (h2 : ∀ c,a ≠ .agg c) (w : World) : (eqGuard op t x y a b).run P w = .ok () w:=by
  unfold eqGuard
  cases a with
  | nilIface=>exact (h1 rfl).elim
  | agg c=>exact (h2 c rfl).elim
  | _=>by_cases hop : op = .eql ∨ op = .neq
       · rcases hop with rfl | rfl <;> simp
       · cases op <;> simp_all
theorem Y6d {op : BinOp} {t : TypeId} {v u : V} {K : V → Prop} (h : binC P op t v u K) : ∃ r,K r ∧ ∀ {w : World} {S B : BS} {κ : KM} {x y : Operand} {a b : Value},
  Rep w S B κ v a [] → Rep w S B κ u b [] → ∃ z,(do eqGuard op t x y a b; binOp op t a b : Sem Value).run P w = .ok z w ∧ Rep w S B κ r z []:=by
 unfold binC at h
 split at h
 ·rename_i k x' k' y'
  rcases h with ⟨rfl,r,hr,hK⟩ | ⟨_,rfl,hy,hK⟩
  ·refine ⟨_,hK, ?_⟩
   rintro w S B κ x y a b ⟨_,rfl,_⟩ ⟨_,rfl,_⟩
   exact ⟨r,by rw [Sem.run_bind,Q0S (by simp) (by simp)]; exact Y5C hr t w,rfl,rfl,Y9N hr⟩
  ·refine ⟨_,hK, ?_⟩
   rintro w S B κ x y a b ⟨_,rfl,_⟩ ⟨_,rfl,_⟩
   refine ⟨_, ?_,rfl,rfl,rfl⟩
   have hy' : ¬ y' < 0:=by omega
   rw [Sem.run_bind,Q0S (by simp) (by simp)]
   simp [binOp,Op.shift,hy']
 ·rename_i x' y'
  obtain ⟨ht,⟨rfl,hK⟩ | ⟨rfl,hK⟩⟩:=h
  ·refine ⟨_,hK, ?_⟩
   rintro w S B κ x y a b ⟨_,rfl,_⟩ ⟨_,rfl,_⟩
   refine ⟨_, ?_,rfl,rfl,rfl⟩
   rw [Sem.run_bind,Q0S (by simp) (by simp)]
   simp [binOp,run_equal_bool w t x' y' (Q6I ht)]
  ·refine ⟨_,hK, ?_⟩
   rintro w S B κ x y a b ⟨_,rfl,_⟩ ⟨_,rfl,_⟩
   refine ⟨_, ?_,rfl,rfl,rfl⟩
   rw [Sem.run_bind,Q0S (by simp) (by simp)]
   simp [binOp,run_equal_bool w t x' y' (Q6I ht),bne]
 ·obtain ⟨ht,r,hr,hK⟩:=h
  refine ⟨_,hK, ?_⟩
  rintro w S B κ x y a b ⟨_,rfl,_⟩ ⟨_,rfl,_⟩
  exact ⟨r,by rw [Sem.run_bind,Q0S (by simp) (by simp)]; exact Y5B hr t w,rfl,rfl,Y9q hr⟩
 ·obtain ⟨ht,h⟩:=h
  have hu:=Q4g ht
  rcases h with ⟨rfl,hK⟩ | ⟨rfl,hK⟩ <;> refine ⟨_,hK, ?_⟩ <;> rintro w S B κ x y a b ⟨b',o,u,rfl,_⟩ ⟨_,rfl,_⟩ <;> refine ⟨_, ?_,rfl,rfl,rfl⟩ <;>
   rw [Sem.run_bind,Q0S (by simp) (by simp)] <;> simp [X2c hu,X2b hu]
 ·obtain ⟨ht,h⟩:=h
  have hu:=Q4g ht
  rcases h with ⟨rfl,hK⟩ | ⟨rfl,hK⟩ <;> refine ⟨_,hK, ?_⟩ <;> rintro w S B κ x y a b ⟨_,b',_,rfl⟩ ⟨_,rfl,_⟩ <;> refine ⟨_, ?_,rfl,rfl,rfl⟩ <;>
   rw [Sem.run_bind,Q0S (by simp) (by simp)] <;> simp [X2c hu,X2b hu]
 ·obtain ⟨ht,h⟩:=h
  have hu:=Q4g ht
  rcases h with ⟨rfl,hK⟩ | ⟨rfl,hK⟩ <;> refine ⟨_,hK, ?_⟩ <;> rintro w S B κ x y a b ⟨_,rfl,_⟩ ⟨_,rfl,_⟩ <;> refine ⟨_, ?_,rfl,rfl,rfl⟩ <;>
   rw [Sem.run_bind,Q0S (by simp) (by simp)] <;> simp [X2c hu,X2b hu]
 ·obtain ⟨ht,h⟩:=h
  obtain ⟨⟨e,sz⟩,he⟩:=Option.isSome_iff_exists.1 ht
  have hu:=(Q0h he).1
  rcases h with ⟨rfl,hK⟩ | ⟨rfl,hK⟩ <;> refine ⟨_,hK, ?_⟩ <;> rintro w S B κ x y a b ⟨_,rfl,_⟩ ⟨_,rfl,_⟩ <;> refine ⟨_, ?_,rfl,rfl,rfl⟩ <;>
   rw [Sem.run_bind,Q0S (by simp) (by simp)] <;> simp [Q8q hu,Q8n hu]
 ·obtain ⟨⟨ht,hn⟩,h⟩:=h
  obtain ⟨⟨e,sz⟩,he⟩:=Option.isSome_iff_exists.1 ht
  have hu:=(Q0h he).1
  rcases h with ⟨rfl,hK⟩ | ⟨rfl,hK⟩ <;> refine ⟨_,hK, ?_⟩ <;> rintro w S B κ x y a b ⟨a0,c0,rfl,_,_,_,hz | ⟨b0,o0,u0,rfl,_⟩⟩ ⟨_,rfl,_⟩ <;> first | (exfalso; omega) | (refine ⟨_, ?_,rfl,rfl,rfl⟩ <;>
   rw [Sem.run_bind,Q0S (by simp) (by simp)] <;> simp [Q8q hu,Q8n hu])
 ·obtain ⟨⟨ht,hn⟩,h⟩:=h
  obtain ⟨⟨e,sz⟩,he⟩:=Option.isSome_iff_exists.1 ht
  have hu:=(Q0h he).1
  rcases h with ⟨rfl,hK⟩ | ⟨rfl,hK⟩ <;> refine ⟨_,hK, ?_⟩ <;> rintro w S B κ x y a b ⟨_,hz | ⟨b0,c0,_,rfl,_⟩⟩ ⟨_,rfl,_⟩ <;> first | (exfalso; omega) | (refine ⟨_, ?_,rfl,rfl,rfl⟩ <;>
   rw [Sem.run_bind,Q0S (by simp) (by simp)] <;> simp [Q8q hu,Q8n hu])
 ·exact h.elim
theorem Y6p {op : UnOp} {v : V} {K : V → Prop} (h : unC op v K) : ∃ r,K r ∧ ∀ {w : World} {S B : BS} {κ : KM} {a : Value},
  Rep w S B κ v a [] → ∃ z,(Op.unary op a).run P w = .ok z w ∧ Rep w S B κ r z []:=by
 unfold unC at h
 split at h
 ·refine ⟨_,h, ?_⟩
  rintro w S B κ a ⟨_,rfl,_⟩
  exact ⟨_,by simp [Op.unary],rfl,rfl,rfl⟩
 ·refine ⟨_,h, ?_⟩
  rintro w S B κ a ⟨_,rfl,_⟩
  refine ⟨_, ?_,rfl,rfl,rfl⟩
  simp [Op.unary,Op.intArith]
 ·exact h.elim
theorem Y8x {s d : TypeId} {v : V} {K : V → Prop} (h : cvC P s d v K) : ∃ r,K r ∧ ∀ {w : World} {S B : BS} {κ : KM} {a : Value},
  Rep w S B κ v a [] → ∃ z,(convert s d a).run P w = .ok z w ∧ Rep w S B κ r z []:=by
 unfold cvC at h
 split at h
 ·obtain ⟨k0,k1,h0,h1,hK⟩:=h
  refine ⟨_,hK, ?_⟩
  rintro w S B κ a ⟨_,rfl,_⟩
  exact ⟨_,by simp [convert,run_underlying (Q2f h0),run_underlying (Q2f h1),Conv.intToInt],rfl,rfl,rfl⟩
 ·obtain ⟨h0,h1,hK⟩:=h
  refine ⟨_,hK, ?_⟩
  rintro w S B κ a ⟨_,rfl,_⟩
  exact ⟨_,by simp [convert,run_underlying (Q0V h0),run_underlying (Q0V h1)],rfl,rfl,rfl⟩
 ·exact h.elim
end
section
variable {P : Program}
theorem Addr.mid (b o j : Nat) : (⟨b,o,none⟩ : Addr).add j = ⟨b,o + j,none⟩:=by unfold Addr.add; split <;> simp_all
theorem Flg.nil {S B : BS} {f : Fl} {b : Nat} {us : List Nat} {X : Prop} (hf : Flg f S B b X us []) : us = []:=by
 cases f
 ·exact hf.2.1
 ·exact hf.2.1
 ·exact absurd hf.1 (by intro h; cases h)
theorem Flg.any {S B : BS} {f : Fl} {b : Nat} {us : List Nat} {X X' : Prop} (hf : Flg f S B b X us []) : Flg f S B b X' us []:=by
 cases f
 ·exact hf
 ·exact hf
 ·exact absurd hf.1 (by intro h; cases h)
theorem Mem.drop0 {w : World} {S B : BS} {κ : KM} {cs : List V} {b o : Nat} (n : Nat) (h : Mem w S B κ cs b o []) (hn : n ≤ cs.length) : Mem w S B κ (cs.drop n) b (o + n) []:=by
 obtain ⟨u,h1,h2⟩:=h.drop n hn
 have : u = []:=by cases u with | nil=>rfl | cons x xs=>have:=h1 x (by simp); simp at this
 subst this
 exact h2
theorem Mem.take0 {w : World} {S B : BS} {κ : KM} {cs : List V} {b o : Nat} (n : Nat) (h : Mem w S B κ cs b o []) : Mem w S B κ (cs.take n) b o []:=by
 obtain ⟨u,h1,h2⟩:=h.take n
 have : u = []:=by cases u with | nil=>rfl | cons x xs=>have:=h1 x (by simp); simp at this
 subst this
 exact h2
theorem Y8i {t : TypeId} {v : V} {f : Nat} {K : V → Prop} (h : faC P t v f K) : ∃ r,K r ∧ ∀ {w : World} {S B : BS} {κ : KM} {a : Value},
  Rep w S B κ v a [] → ∃ z,(Instr.fieldAt t a f).run P w = .ok z w ∧ Rep w S B κ r z []:=by
 obtain ⟨off,sz,ag,hf,hsz,h⟩:=h
 obtain ⟨fs,x,hu,hx,ho,hs,_⟩:=Q8h hf
 have hrun : ∀ (w : World) (b o : Nat),(Instr.fieldAt t (.pointer (some ⟨b,o,none⟩)) f).run P w = .ok (.pointer (some ⟨b,o + off,none⟩)) w:=by
  intro w b o
  simp [Instr.fieldAt,run_underlying hu,hx,Instr.sureAddr,fieldPlace,Q2g hs,hsz,ho,Addr.mid]
 split at h
 ·obtain ⟨hle,hK⟩:=h
  refine ⟨_,hK, ?_⟩
  rintro w S B κ a ⟨b,o,u,rfl,h1,h2⟩
  obtain rfl:=h2.nil
  exact ⟨_,hrun w b o,b,o + off,[],rfl,h1.drop0 off hle,h2.any⟩
 ·refine ⟨_,h, ?_⟩
  rintro w S B κ a ⟨_,b,h1,rfl⟩
  exact ⟨_,hrun w b _,rfl,b,h1,rfl⟩
 ·exact h.elim
theorem Y8h {t : TypeId} {v : V} {f : Nat} {K : V → Prop} (h : fdC P t v f K) : ∃ r,K r ∧ ∀ {w : World} {S B : BS} {κ : KM} {a : Value},
  Rep w S B κ v a [] → ∃ z,(Instr.field t a f).run P w = .ok z w ∧ Rep w S B κ r z []:=by
 obtain ⟨off,sz,ag,hf,h⟩:=h
 obtain ⟨fs,x,hu,hx,ho,hs,hag⟩:=Q8h hf
 split at h
 ·rcases h with ⟨rfl,hle,hK⟩ | ⟨rfl,c,hc,hK⟩
  ·refine ⟨_,hK, ?_⟩
   rintro w S B κ a ⟨xs,rfl,h1⟩
   obtain ⟨u,hu1,hu2⟩:=h1.drop off
   obtain ⟨u',hu3,hu4⟩:=hu2.take sz
   have : u' = []:=by cases u' with | nil=>rfl | cons y ys=>have:=hu1 y (hu3 y (by simp)); simp at this
   subst this
   refine ⟨.agg (xs.extract off (off + sz)), ?_,_,rfl, ?_⟩
   ·simp [Instr.field,run_underlying hu,hx,asAgg,part,Q8o hag,Q2g hs,ho]
   ·have e : (xs.extract off (off + sz)).toList = (xs.toList.drop off).take sz:=by
     simp [List.extract_eq_take_drop,List.take_drop]
    rw [e]; exact hu4
  ·refine ⟨_,hK, ?_⟩
   rintro w S B κ a ⟨xs,rfl,h1⟩
   obtain ⟨y,u,e1,e2,e3⟩:=h1.get hc
   have : u = []:=by cases u with | nil=>rfl | cons y ys=>have:=e2 y (by simp); simp at this
   subst this
   refine ⟨y, ?_,e3⟩
   have e1' : xs[off]? = some y:=by simpa using e1
   simp [Instr.field,run_underlying hu,hx,asAgg,part,Q8o hag,ho,e1']
 ·exact h.elim
theorem Y8c {t : TypeId} {v i : V} {K : V → Prop} (h : iaC P t v i K) : ∃ r,K r ∧ ∀ {w : World} {S B : BS} {κ : KM} {a j : Value},
  Rep w S B κ v a [] → Rep w S B κ i j [] → ∃ z,(Instr.indexAt t a j).run P w = .ok z w ∧ Rep w S B κ r z []:=by
 obtain ⟨k,j,rfl,hj,h⟩:=h
 have hrun : ∀ {e sz : Nat} (ht : tsl P t = some (e,sz)) (w : World) (b o n c : Nat),j < n →
   (Instr.indexAt t (.slice (some ⟨b,o,none⟩) n c) (.int k j)).run P w = .ok (.pointer (some ⟨b,o + j.toNat * sz,none⟩)) w:=by
  intro e sz ht w b o n c hlt
  obtain ⟨hu,hs⟩:=Q0h ht
  simp [Instr.indexAt,asIntOf,run_underlying hu,hj,hlt,Q2g hs,Addr.mid]
 split at h
 ·rename_i f sz n cs
  obtain ⟨e,ht,hlt,hK⟩:=h
  refine ⟨_,hK, ?_⟩
  rintro w S B κ a j' ⟨a',c,rfl,h2,h3,h4,h5⟩ ⟨_,rfl,_⟩
  rcases h5 with ⟨rfl,_⟩ | ⟨b,o,u,rfl,h6,h7⟩
  ·omega
  ·obtain rfl:=h7.nil
   refine ⟨_,hrun ht w b o n c hlt,b,_,[],rfl,h6.drop0 _ ?_,h7.any⟩
   rw [h4]; exact Nat.mul_le_mul_right _ (by omega)
 ·rename_i id sz o n
  obtain ⟨e,ht,hlt,hK⟩:=h
  refine ⟨_,hK, ?_⟩
  rintro w S B κ a j' ⟨_,⟨_,rfl,_⟩ | ⟨b,c,h1,rfl,_⟩⟩ ⟨_,rfl,_⟩
  ·omega
  ·exact ⟨_,hrun ht w b _ n c hlt,rfl,b,h1,by rw [Nat.add_mul]⟩
 ·exact h.elim
theorem Y7W {t : TypeId} {v i : V} {K : V → Prop} (h : ixC P t v i K) : ∃ r,K r ∧ ∀ {w : World} {S B : BS} {κ : KM} {a j : Value},
  Rep w S B κ v a [] → Rep w S B κ i j [] → ∃ z,(Instr.index t a j).run P w = .ok z w ∧ Rep w S B κ r z []:=by
 obtain ⟨k,j,rfl,hj,h⟩:=h
 split at h
 ·obtain ⟨ht,b,hb,hK⟩:=h
  refine ⟨_,hK, ?_⟩
  rintro w S B κ a j' ⟨_,rfl,_⟩ ⟨_,rfl,_⟩
  refine ⟨_, ?_,rfl,rfl,rfl⟩
  simp [Instr.index,asIntOf,run_underlying (Q0V ht),hj,hb]
 ·exact h.elim
theorem Y8j {v : V} {i : Nat} {K : V → Prop} (h : exC v i K) : ∃ r,K r ∧ ∀ {w : World} {S B : BS} {κ : KM} {a : Value},
  Rep w S B κ v a [] → ∃ z,(Instr.extract a i).run P w = .ok z w ∧ Rep w S B κ r z []:=by
 unfold exC at h
 split at h
 ·obtain ⟨c,hc,hK⟩:=h
  refine ⟨_,hK, ?_⟩
  rintro w S B κ a ⟨xs,rfl,h1⟩
  obtain ⟨y,u,e1,e2,e3⟩:=h1.get hc
  have : u = []:=by cases u with | nil=>rfl | cons y ys=>have:=e2 y (by simp); simp at this
  subst this
  have e1' : xs[i]? = some y:=by simpa using e1
  exact ⟨y,by simp [Instr.extract,e1'],e3⟩
 ·exact h.elim
theorem Y5J {t ty : TypeId} {v : V} {K : V → Prop} (h : lenC P t v K) : ∃ r,K r ∧ ∀ {w : World} {S B : BS} {κ : KM} {a : Value},
  Rep w S B κ v a [] → ∃ z,(Builtin.len_ #[t] ty #[a]).run P w = .ok z w ∧ Rep w S B κ r z []:=by
 have hsl : (tsl P t).isSome = true → ∀ (w : World) (a : Option Addr) (n c : Nat),(Builtin.len_ #[t] ty #[.slice a n c]).run P w = .ok (.int .i64 n) w:=by
  intro h w a n c
  cases ht : tsl P t with
  | none=>simp [ht] at h
  | some x=>simp [Builtin.len_,run_underlying (Q0h (e:=x.1) (n:=x.2) ht).1,goInt]
 unfold lenC at h
 split at h
 ·obtain ⟨ht,hK⟩:=h
  refine ⟨_,hK, ?_⟩
  rintro w S B κ a ⟨a',c,rfl,_⟩
  exact ⟨_,hsl ht w _ _ _,rfl,rfl,rfl⟩
 ·obtain ⟨ht,hK⟩:=h
  refine ⟨_,hK, ?_⟩
  rintro w S B κ a ⟨_,⟨_,rfl,_,a',rfl⟩ | ⟨b,c,_,rfl,_⟩⟩
  ·exact ⟨_,hsl ht w _ _ _,rfl,rfl,rfl⟩
  ·exact ⟨_,hsl ht w _ _ _,rfl,rfl,rfl⟩
 ·obtain ⟨ht,hK⟩:=h
  refine ⟨_,hK, ?_⟩
  rintro w S B κ a ⟨_,a',rfl⟩
  exact ⟨_,hsl ht w _ _ _,rfl,rfl,rfl⟩
 ·obtain ⟨ht,hK⟩:=h
  refine ⟨_,hK, ?_⟩
  rintro w S B κ a ⟨_,rfl,_⟩
  refine ⟨_, ?_,rfl,rfl,rfl⟩
  simp [Builtin.len_,run_underlying (Q0V ht),goInt]
 ·exact h.elim
theorem Y2s {m : Int → Int → Int} {v u : V} {K : V → Prop} (h : mmC m v u K) : ∃ r,K r ∧ ∀ {w : World} {S B : BS} {κ : KM} {a b : Value},
  Rep w S B κ v a [] → Rep w S B κ u b [] → ∃ k k' x y,a = .int k x ∧ b = .int k' y ∧ Rep w S B κ r (.int k (m x y)) []:=by
 unfold mmC at h
 split at h
 ·refine ⟨_,h, ?_⟩
  rintro w S B κ a b ⟨_,rfl,_⟩ ⟨_,rfl,_⟩
  exact ⟨_,_,_,_,rfl,rfl,rfl,rfl,rfl⟩
 ·exact h.elim
theorem X6T {n : Nat} {lo hi : Option V} {K : Nat → Nat → Prop} (h : bndC n lo hi K) : ∃ l h,K l h ∧ l ≤ h ∧ h ≤ n ∧
  ∀ {w : World} {S B : BS} {κ : KM} {lov hiv : Option Value} {isSl : Bool} {cap : Nat},n ≤ cap →
   (∀ v,lo = some v → ∃ x,lov = some x ∧ Rep w S B κ v x []) → (lo = none → lov = none) → (∀ v,hi = some v → ∃ x,hiv = some x ∧ Rep w S B κ v x []) → (hi = none → hiv = none) →
   (Instr.sliceBounds isSl n cap lov hiv none).run P w = .ok (l,h,cap) w:=by
 obtain ⟨l,h,hl,hh,h0,h1,h2,hK⟩:=h
 refine ⟨_,_,hK,by omega,by omega, ?_⟩
 intro w S B κ lov hiv isSl cap hcap hlo hlo' hhi hhi'
 have b1 : ∀ (k : IntKind) (x : Int) (y : Nat) (c : BoundsCode),0 ≤ x → x ≤ y → (Instr.sliceBound (.int k x) y c).run P w = .ok x.toNat w:=by
  intro k x y c hx hy; simp [Instr.sliceBound,asIntOf,hx,hy]
 rcases hl with ⟨rfl,rfl⟩ | ⟨k,rfl⟩ <;> rcases hh with ⟨rfl,rfl⟩ | ⟨k',rfl⟩
 ·rw [hlo' rfl,hhi' rfl]; simp [Instr.sliceBounds]
 ·obtain ⟨x,rfl,_,rfl,_⟩:=hhi _ rfl
  rw [hlo' rfl]; simp [Instr.sliceBounds,b1 k' h cap _ (by omega) (by omega)]
 ·obtain ⟨x,rfl,_,rfl,_⟩:=hlo _ rfl
  rw [hhi' rfl]; simp [Instr.sliceBounds,b1 k l n _ (by omega) (by omega)]
 ·obtain ⟨x,rfl,_,rfl,_⟩:=hlo _ rfl
  obtain ⟨y,rfl,_,rfl,_⟩:=hhi _ rfl
  simp [Instr.sliceBounds,b1 k' h cap _ (by omega) (by omega),b1 k l h.toNat _ (by omega) (by omega)]
theorem Y5A {t : TypeId} {v : V} {lo hi : Option V} {K : V → Prop} (h : slcC P t v lo hi K) : ∃ r,K r ∧ ∀ {w : World} {S B : BS} {κ : KM} {a : Value} {lov hiv : Option Value},
  Rep w S B κ v a [] → (∀ v,lo = some v → ∃ x,lov = some x ∧ Rep w S B κ v x []) → (lo = none → lov = none) → (∀ v,hi = some v → ∃ x,hiv = some x ∧ Rep w S B κ v x []) → (hi = none → hiv = none) →
  ∃ z,(Instr.sliceAt t a lov hiv none).run P w = .ok z w ∧ Rep w S B κ r z []:=by
 have hrun : ∀ {e sz : Nat} (ht : tsl P t = some (e,sz)) (w : World) (a : Option Addr) (n c : Nat) (lov hiv : Option Value) (l h m : Nat),
   (Instr.sliceBounds true n c lov hiv none).run P w = .ok (l,h,m) w →
   (Instr.sliceAt t (.slice a n c) lov hiv none).run P w = .ok (.slice (if m = l then a else a.map (·.add (l * sz))) (h - l) (m - l)) w:=by
  intro e sz ht w a n c lov hiv l h m hb
  obtain ⟨hu,hs⟩:=Q0h ht
  simp [Instr.sliceAt,run_underlying hu,Instr.slice,hb,Q2g hs]
 unfold slcC at h
 split at h
 ·rename_i f sz n cs
  obtain ⟨e,ht,h⟩:=h
  obtain ⟨l,h,hK,hlh,hhn,hb⟩:=X6T (P:=P) h
  refine ⟨_,hK, ?_⟩
  rintro w S B κ a lov hiv ⟨a',c,rfl,h2,h3,h4,h5⟩ e1 e2 e3 e4
  refine ⟨_,hrun ht w a' n c lov hiv l h c (hb h2 e1 e2 e3 e4), ?_⟩
  refine ⟨_,_,rfl,by omega,by omega, ?_, ?_⟩
  ·rw [List.length_take,List.length_drop,h4,← Nat.sub_mul]
   exact Nat.min_eq_left (Nat.mul_le_mul_right _ (by omega))
  ·rcases h5 with ⟨rfl,h5⟩ | ⟨b,o,u,rfl,h6,h7⟩
   ·exact .inl ⟨by omega,rfl,fun hf=>by have:=h5.2 hf; omega⟩
   ·obtain rfl:=h7.nil
    by_cases hc : c = l
    ·exact .inl ⟨by omega,rfl,fun _=>by omega⟩
    ·refine .inr ⟨b,o + l * sz,[], ?_, ?_,h7.any⟩
     ·rw [if_neg hc]; simp [Addr.mid]
     ·exact (h6.drop0 _ (by rw [h4]; exact Nat.mul_le_mul_right _ (by omega))).take0 _
 ·rename_i id sz o n
  obtain ⟨e,ht,h⟩:=h
  obtain ⟨l,h,hK,hlh,hhn,hb⟩:=X6T (P:=P) h
  rcases hK with ⟨hlt,hK⟩ | ⟨rfl,_,hK⟩ | ⟨rfl,rfl,rfl,_,hK⟩
  rotate_right
  ·refine ⟨_,hK, ?_⟩
   rintro w S B κ a lov hiv ⟨_,⟨hk,rfl,_,a',rfl⟩ | ⟨b,c,h1,rfl,h2,h3,h4⟩⟩ e1 e2 e3 e4
   ·refine ⟨_,hrun ht w a' 0 0 lov hiv 0 0 0 (hb (Nat.le_refl _) e1 e2 e3 e4), ?_⟩
    exact ⟨rfl,.inl ⟨hk,rfl,rfl,_,rfl⟩⟩
   ·refine ⟨_,hrun ht w _ n c lov hiv 0 0 c (hb h2 e1 e2 e3 e4),rfl,.inr ⟨b,c,h1, ?_,by omega,h3,h4⟩⟩
    by_cases hc : c = 0
    ·rw [if_pos hc]; simp
    ·rw [if_neg hc]; simp [Addr.mid]
  ·refine ⟨_,hK, ?_⟩
   rintro w S B κ a lov hiv ⟨_,⟨_,rfl,_⟩ | ⟨b,c,h1,rfl,h2,h3,h4⟩⟩ e1 e2 e3 e4
   ·omega
   ·refine ⟨_,hrun ht w _ n c lov hiv l h c (hb h2 e1 e2 e3 e4),rfl,.inr ⟨b,c - l,h1, ?_,by omega,by omega, ?_⟩⟩
    ·rw [if_neg (by omega)]; simp [Addr.mid,Nat.add_mul]
    ·have : (o + l) * sz + (c - l) * sz = o * sz + c * sz:=by rw [Nat.add_mul,Nat.add_assoc,← Nat.add_mul]; congr 2; omega
     rw [this]; exact h4
  ·refine ⟨_,hK, ?_⟩
   rintro w S B κ a lov hiv ⟨_,⟨_,rfl,_,a',rfl⟩ | ⟨b,c,h1,rfl,h2,h3,h4⟩⟩ e1 e2 e3 e4
   ·refine ⟨_,hrun ht w a' 0 0 lov hiv l l 0 (hb (Nat.le_refl _) e1 e2 e3 e4), ?_⟩
    exact ⟨_,0 - l,by rw [Nat.sub_self],by omega,by omega,by simp,.inl ⟨rfl,rfl,fun h=>by cases h⟩⟩
   ·refine ⟨_,hrun ht w _ n c lov hiv l l c (hb h2 e1 e2 e3 e4), ?_⟩
    exact ⟨_,c - l,by rw [Nat.sub_self],by omega,by omega,by simp,.inl ⟨rfl,rfl,fun h=>by cases h⟩⟩
 ·obtain ⟨e,sz,ht,h⟩:=h
  obtain ⟨l,h,hK,hlh,hhn,hb⟩:=X6T (P:=P) h
  refine ⟨_,hK, ?_⟩
  rintro w S B κ a lov hiv ⟨_,a',rfl⟩ e1 e2 e3 e4
  refine ⟨_,hrun ht w a' 0 0 lov hiv l h 0 (hb (Nat.le_refl _) e1 e2 e3 e4),rfl, ?_⟩
  obtain rfl : h = 0:=by omega
  obtain rfl : l = 0:=by omega
  exact ⟨_,rfl⟩
 ·rename_i s
  obtain ⟨ht,h⟩:=h
  obtain ⟨l,h,hK,hlh,hhn,hb⟩:=X6T (P:=P) h
  refine ⟨_,hK, ?_⟩
  rintro w S B κ a lov hiv ⟨_,rfl,_⟩ e1 e2 e3 e4
  refine ⟨_, ?_,rfl,rfl,rfl⟩
  simp [Instr.sliceAt,run_underlying (Q0V ht),Instr.slice,hb (isSl:=false) (Nat.le_refl _) e1 e2 e3 e4]
 ·exact h.elim
end
section
variable {P : Program} {w : World}
theorem Value.cells_one {x : Value} (h : x.oneCell' = true) : x.cells = #[x]:=by
 cases x <;> simp_all [Value.cells,Value.oneCell']
theorem Rep.one {S B : BS} {κ : KM} {v : V} {x : Value} {us : List Nat} {cs : List V} (hc : v.cells = some cs) (hv : ∀ vs,v ≠ .agg vs) (h : Rep w S B κ v x us) : x.oneCell' = true:=by
 cases v with
 | any=>simp [V.cells] at hc
 | tup vs=>simp [V.cells] at hc
 | agg vs=>exact (hv vs rfl).elim
 | lit v=>obtain ⟨_,rfl,h⟩:=h; exact h
 | emp=>obtain ⟨_,a,rfl⟩:=h; rfl
 | ptr f cs=>obtain ⟨b,o,u,rfl,_⟩:=h; rfl
 | sl f sz n cs=>obtain ⟨a,c,rfl,_⟩:=h; rfl
 | fn f fs cs=>obtain ⟨_,ys,zs,rfl,_⟩:=h; rfl
 | ref id off=>obtain ⟨_,b,_,rfl⟩:=h; rfl
 | mp id=>obtain ⟨_,b,_,rfl⟩:=h; rfl
 | rsl id sz o n=>obtain ⟨_,⟨_,_,_,a,rfl⟩ | ⟨b,c,_,rfl,_⟩⟩:=h <;> rfl
theorem Rep.cells {S B : BS} {κ : KM} {v : V} {x : Value} {us : List Nat} {cs : List V} (hc : v.cells = some cs) (h : Rep w S B κ v x us) : RepL w S B κ cs x.cells.toList us:=by
 by_cases hv : ∃ vs,v = .agg vs
 ·obtain ⟨vs,rfl⟩:=hv
  obtain ⟨xs,rfl,h1⟩:=h
  simp only [V.cells,Option.some.injEq] at hc
  subst hc
  exact h1
 ·have hv' : ∀ vs,v ≠ .agg vs:=fun vs e=>hv ⟨vs,e⟩
  have h1:=Rep.one hc hv' h
  have : cs = [v]:=by cases v <;> simp_all [V.cells]
  subst this
  rw [Value.cells_one h1]
  exact ⟨x,[],us,[],rfl,by simp,h,rfl,rfl⟩
def V.cell (v : V) : Prop:=match v with
 | .any | .agg _ | .tup _=>False
 | _=>True
theorem RepL.cell {S B : BS} {κ : KM} : ∀ {cs : List V} {xs : List Value} {us : List Nat},(∀ c ∈ cs,c.cell) → RepL w S B κ cs xs us → ∀ x ∈ xs,x.oneCell' = true
 | [],_,_,_,⟨h,_⟩=>by subst h; simp
 | c :: cs,_,_,hc,⟨x,xs',u1,u2,h1,h2,h3,h4⟩=>by
  subst h1
  intro y hy
  rcases List.mem_cons.1 hy with rfl | hy
  ·have hcc:=hc c (by simp)
   refine Rep.one (cs:=[c]) ?_ ?_ h3
   ·cases c <;> simp_all [V.cell,V.cells]
   ·rintro vs rfl; exact hcc
  ·exact RepL.cell (fun c h=>hc c (by simp [h])) h4 y hy
theorem Y2F (off : Nat) : ∀ (xs : List Value) (j : Nat) (cells : Array Value),off + j + xs.length ≤ cells.size →
  (xs.zipIdx j).foldl (fun cs (p : Value × Nat)=>cs.setIfInBounds (off + p.2) p.1) cells =
   (cells.toList.take (off + j) ++ xs ++ cells.toList.drop (off + j + xs.length)).toArray
 | [],j,cells,_=>by simp
 | x :: xs,j,cells,h=>by
  simp only [List.zipIdx_cons,List.foldl_cons,List.length_cons] at h ⊢
  rw [Y2F off xs (j + 1) _ (by simp; omega)]
  congr 1
  have hlt : off + j < cells.toList.length:=by simp; omega
  have e1 : (cells.setIfInBounds (off + j) x).toList = cells.toList.set (off + j) x:=by simp
  rw [e1]
  have e2 : off + (j + 1) = off + j + 1:=by omega
  have e3 : off + j + 1 + xs.length = off + j + (xs.length + 1):=by omega
  rw [e2,e3,List.drop_set_of_lt (by omega)]
  have e4 : (cells.toList.set (off + j) x).take (off + j + 1) = cells.toList.take (off + j) ++ [x]:=by
   rw [List.take_succ_eq_append_getElem (by simpa using hlt),List.take_set_of_le (Nat.le_refl _)]
   simp
  rw [e4]; simp
theorem Q6z {pl : List (Nat × Nat)} : ∀ {parts : List (Nat × V)} {z : List V} {K : List V → Prop},fillV pl parts z K → ∃ cs,K cs ∧ ∀ {w : World} {S B : BS} {κ : KM} {ps : List (Nat × Value)} {zs : Array Value},
  RepL w S B κ z zs.toList [] → ps.length = parts.length → (∀ (i : Nat) (p : Nat × V),parts[i]? = some p → ∃ x,ps[i]? = some (p.1,x) ∧ Rep w S B κ p.2 x []) →
  ∃ xs,Instr.fill (pl.toArray[·]?) zs ps = some xs ∧ RepL w S B κ cs xs.toList []
 | [],z,K,h=>⟨z,h,fun {w S B κ ps zs} hz hl _=>by
   obtain rfl : ps = []:=List.eq_nil_of_length_eq_zero (by simpa using hl)
   exact ⟨zs,rfl,hz⟩⟩
 | (i,v) :: parts,z,K,⟨off,sz,cs,h1,h2,h3,h4,h5⟩=>by
  obtain ⟨cs',hK,ih⟩:=Q6z h5
  refine ⟨cs',hK, ?_⟩
  intro w S B κ ps zs hz hl hp
  cases ps with
  | nil=>simp at hl
  | cons p ps =>
   obtain ⟨x,e1,e2⟩:=hp 0 (i,v) rfl
   simp only [List.getElem?_cons_zero,Option.some.injEq] at e1
   subst e1
   have hx:=e2.cells h2
   have hxl : x.cells.size = sz:=by have:=hx.length; simp at this; omega
   have hzl : zs.size = z.length:=by have:=hz.length; simpa using this
   obtain ⟨u1,g1,g2⟩:=hz.take off
   obtain ⟨u2,g3,g4⟩:=hz.drop (off + sz)
   have hu1 : u1 = []:=by cases u1 with | nil=>rfl | cons y ys=>have:=g1 y (by simp); simp at this
   have hu2 : u2 = []:=by cases u2 with | nil=>rfl | cons y ys=>have:=g3 y (by simp); simp at this
   subst hu1; subst hu2
   have hnew:=(g2.nils hx).nils g4
   obtain ⟨xs,f1,f2⟩:=ih (zs:=(zs.toList.take off ++ x.cells.toList ++ zs.toList.drop (off + sz)).toArray) (ps:=ps) hnew (by simpa using hl)
    (fun j q hq=>hp (j + 1) q (by simpa using hq))
   refine ⟨xs, ?_,f2⟩
   have hfold:=Y2F off x.cells.toList 0 zs (by simp [hxl]; omega)
   simp only [Nat.add_zero,Array.length_toList,hxl] at hfold
   have hpl : pl.toArray[i]? = some (off,sz):=by simpa using h1
   unfold Instr.fill
   simp only [hpl]
   rw [if_neg (by simp [hxl]; omega)]
   rw [← f1]
   congr 1
   rw [← hfold,← Array.foldl_toList,Array.toList_zipIdx]
theorem Q1f {t : TypeId} {z : List V} (h : tzer P t = some z) : ∃ i v,P.info? t = some i ∧ i.zero = some v ∧ z = v.cells.toList.map V.ofVal1:=by
 unfold tzer at h
 cases hi : P.info? t with
 | none=>simp [hi] at h
 | some i =>
  cases hz : i.zero with
  | none=>simp [hi,hz] at h
  | some v=>exact ⟨i,v,rfl,hz,by simpa [hi,hz] using h.symm⟩
theorem Y5D (S B : BS) (κ : KM) (v : Value) : Rep w S B κ (V.ofVal1 v) v []:=by
 unfold V.ofVal1
 split
 ·exact ⟨rfl,none,rfl⟩
 ·rfl
 ·rfl
 ·refine ⟨rfl,rfl, ?_⟩
  unfold Value.oneCell'
  split <;> simp_all
theorem Q1j (S B : BS) (κ : KM) : ∀ xs : List Value,RepL w S B κ (xs.map V.ofVal1) xs []
 | []=>⟨rfl,rfl⟩
 | x :: xs=>⟨x,xs,[],[],rfl,rfl,Y5D S B κ x,Q1j S B κ xs⟩
theorem Y6c {t : TypeId} {parts : List (Nat × V)} {K : V → Prop} (h : bldC P t parts K) : ∃ r,K r ∧ ∀ {w : World} {S B : BS} {κ : KM} {ps : Array (Nat × Value)},
  ps.size = parts.length → (∀ (i : Nat) (p : Nat × V),parts[i]? = some p → ∃ x,ps[i]? = some (p.1,x) ∧ Rep w S B κ p.2 x []) →
  ∃ x,(Instr.build t ps).run P w = .ok x w ∧ Rep w S B κ r x []:=by
 obtain ⟨pl,z,hpl,hz,h⟩:=h
 obtain ⟨i,v,hi,hzv,rfl⟩:=Q1f hz
 obtain ⟨cs,hK,hfill⟩:=Q6z h
 refine ⟨.agg cs,hK, ?_⟩
 intro w S B κ ps hl hp
 unfold tplc at hpl
 split at hpl
 ·rename_i fs hu
  obtain ⟨xs,h1,h2⟩:=hfill (ps:=ps.toList) (Q1j S B κ v.cells.toList) (by simpa using hl) (by simpa using hp)
  refine ⟨.agg xs,run_build w t ps xs ?_,xs,rfl,h2⟩
  simp only [Program.built,hi,hu,hzv,hpl]
  exact h1
 ·cases hpl
section
variable {E : Env} {H : List Ob} {κ : KM} {S : BS} {uss : List (List Nat)} {a : Act}
theorem Y3U {f : Operand} {args : Array Operand} {ts : Array TypeId} {ρ : Operand → V} {o : Oper} {K : V → Prop} (ho : o.op = .call { callee:=.value f,args,argTypes:=ts })
  (h : callC P (ρ f) (args.toList.map ρ) H K) : ∃ v,K v ∧ ∀ {E : Env} {w : World} {κ : KM} {S : BS} {uss : List (List Nat)} {a : Act},
   (∀ x,Rep w S E.B κ (ρ x) (a.eval x) []) → Hp E H w κ S uss → Yld P E H o a w κ S uss v:=by
 unfold callC at h
 split at h
 ·rename_i g fs cs hf
  obtain ⟨args',r,hle,hpc,hK⟩:=h
  refine ⟨r,hK, ?_⟩
  intro E w κ S uss a hρ hp Kr Q hKr
  have hfr:=hρ f
  rw [hf] at hfr
  obtain ⟨_,ys,zs,hv,h1,h2⟩:=hfr
  have hargs:=RepL.of_map hρ args.toList
  have hall:=(h1.nils hargs).nils h2
  have hcall:=hp.callp hle hall hpc
  have harr : (ys.toList ++ args.toList.map a.eval ++ zs.toList).toArray = ys ++ args.map a.eval ++ zs:=by
   apply Array.ext'; simp
  rw [harr] at hcall
  have hrun : (execOp a.eval o).run P w = .ok (.enter g (ys ++ args.map a.eval ++ zs)) w:=by
   have:=hpc.1 (ys ++ args.map a.eval ++ zs) w
   simp only [execOp,ho,resolve,Deferred.ofValue,hv,Sem.run_bind,Sem.run_pure,Result.andThen_ok,invoke]
   exact this
  unfold Oper.wp
  rw [hrun]
  refine hcall.mono ?_
  rintro e w' ⟨x,rfl,hb,S',hs1,hs2,hp',hr⟩
  exact hKr x w' S' hb hs1 hs2 hp' (Rep.ext [] κ ⟨fun _ h=>h,fun _ h=>h,fun _ _ h=>by simp at h,fun _ _ h=>h,fun _ _ _=>rfl⟩ r x [] (fun _ _ _=>rfl) hr)
 ·exact h.elim
theorem Y9x {o : Oper} {ρ : Operand → V} {K : V → Prop} (h : qC P o.op ρ H K) : ∃ v,K v ∧ ∀ {E : Env} {w : World} {κ : KM} {S : BS} {uss : List (List Nat)} {a : Act},
  (∀ x,Rep w S E.B κ (ρ x) (a.eval x) []) → Hp E H w κ S uss → Yld P E H o a w κ S uss v:=by
 unfold qC at h
 split at h
 ·rename_i x ho
  exact ⟨_,h,fun hρ hp=>Yld.of_run hp (by simp [execOp,ho]) (hρ x)⟩
 ·rename_i x ho
  exact ⟨_,h,fun hρ hp=>Yld.of_run hp (by simp [execOp,ho]) (hρ x)⟩
 ·rename_i c x y ho
  obtain ⟨v,hK,hv⟩:=Y3u (P:=P) h
  refine ⟨v,hK,fun hρ hp=>?_⟩
  obtain ⟨z,h1,h2⟩:=hv (hρ c) (hρ x) (hρ y)
  exact Yld.of_run hp (by simp only [execOp,ho]; exact h1) h2
 ·rename_i t parts ho
  obtain ⟨v,hK,hv⟩:=Y6c h
  refine ⟨v,hK,fun {E w κ S uss a} hρ hp=>?_⟩
  obtain ⟨z,h1,h2⟩:=hv (w:=w) (S:=S) (B:=E.B) (κ:=κ) (ps:=parts.map fun (i,x)=>(i,a.eval x)) (by simp) (by
   intro i p hi
   rw [List.getElem?_map] at hi
   cases hq : parts.toList[i]? with
   | none=>rw [hq] at hi; simp at hi
   | some q =>
    rw [hq] at hi
    obtain rfl : (q.1,ρ q.2) = p:=by simpa using hi
    have hq' : parts[i]? = some q:=by simpa using hq
    exact ⟨a.eval q.2,by simp [hq'],hρ q.2⟩)
  exact Yld.of_run hp (by simp [execOp,ho,h1]) h2
 ·rename_i t x ho
  unfold ldP at h
  split at h
  ·rename_i f cs hx
   obtain ⟨v,hK,hv⟩:=X3j h
   refine ⟨v,hK,fun {E w κ S uss a} hρ hp=>?_⟩
   have hr:=hρ x
   rw [hx] at hr
   obtain ⟨b,o',u,h1,h2,h3⟩:=hr
   obtain rfl:=h3.nil
   obtain ⟨xs,e1,e2,e3⟩:=h2.vals
   obtain ⟨z,u,e4,e5,e6,e7⟩:=hv e1 e2 (RepL.in (B':=E.B) (κ':=κ) (Flb.le) (fun _ _ h=>by simp at h) e3)
   obtain rfl:=e6 (.inl rfl)
   exact Yld.of_run hp (by simp [execOp,ho,h1,e4]) e7
  ·rename_i id off hx
   obtain ⟨ob,hi,hst,hnu,h⟩:=h
   have hkeep:=h
   obtain ⟨v,hK,hv⟩:=X3j h
   refine ⟨v,hK,fun {E w κ S uss a} hρ hp=>?_⟩
   have hr:=hρ x
   rw [hx] at hr
   obtain ⟨_,b,h1,h2⟩:=hr
   rcases hp.leok.cells hi hst h1 with ⟨h0,_⟩ | ⟨b',u,hb,_,_,_,hm⟩
   ·cases h0
   ·obtain rfl : b = b':=by simpa using hb
    by_cases hle : off ≤ ob.cs.length
    ·obtain ⟨u2,_,hm2⟩:=hm.drop off hle
     rw [Nat.zero_add] at hm2
     obtain ⟨xs,e1,e2,e3⟩:=hm2.vals
     obtain ⟨z,u,e4,e5,e6,e7⟩:=hv e1 e2 e3
     obtain rfl:=e6 (.inr hnu)
     exact Yld.of_run hp (by simp [execOp,ho,h2,e4]) e7
    ·exfalso
     obtain ⟨n,hn,hpos,hl,hh⟩:=hkeep
     rw [List.drop_eq_nil_of_le (by omega)] at hl
     simp at hl; omega
  ·exact h.elim
 ·rename_i x ho
  exact ⟨_,(X9M (P:=P) h ho).1,fun hρ hp=>Yld.of_run hp ((X9M (P:=P) h ho).2 (hρ x)) (hρ x)⟩
 ·rename_i op t x y t' ho
  obtain ⟨v,hK,hv⟩:=Y6d h
  refine ⟨v,hK,fun hρ hp=>?_⟩
  obtain ⟨z,h1,h2⟩:=hv (x:=x) (y:=y) (hρ x) (Z1t (hρ y))
  exact Yld.of_run hp (by simp only [execOp,ho]; rw [Sem.run_bind,h1]; rfl) h2
 ·rename_i op t x ho
  obtain ⟨v,hK,hv⟩:=Y6p (P:=P) h
  refine ⟨v,hK,fun hρ hp=>?_⟩
  obtain ⟨z,h1,h2⟩:=hv (hρ x)
  exact Yld.of_run hp (by simp only [execOp,ho]; rw [Sem.run_bind,h1]; rfl) h2
 ·rename_i s d x ho
  obtain ⟨v,hK,hv⟩:=Y8x h
  refine ⟨v,hK,fun hρ hp=>?_⟩
  obtain ⟨z,h1,h2⟩:=hv (hρ x)
  exact Yld.of_run hp (by simp only [execOp,ho]; rw [Sem.run_bind,h1]; rfl) h2
 ·rename_i f fs cs ho
  refine ⟨_,h,fun {E w κ S uss a} hρ hp=>Yld.of_run (x:=.func f (fs.map a.eval) (cs.map a.eval)) hp (by simp [execOp,ho,Instr.makeFunc]) ?_⟩
  exact ⟨rfl,_,_,rfl,by simpa using RepL.of_map hρ fs.toList,by simpa using RepL.of_map hρ cs.toList⟩
 ·rename_i t x lo hi ho
  obtain ⟨v,hK,hv⟩:=Y5A h
  refine ⟨v,hK,fun {E w κ S uss a} hρ hp=>?_⟩
  obtain ⟨z,h1,h2⟩:=hv (lov:=lo.map a.eval) (hiv:=hi.map a.eval) (hρ x) (by cases lo <;> simp; exact hρ _) (by cases lo <;> simp) (by cases hi <;> simp; exact hρ _) (by cases hi <;> simp)
  exact Yld.of_run hp (by simp only [execOp,ho]; rw [Sem.run_bind,Option.map_none,h1]; rfl) h2
 ·rename_i t x f ho
  obtain ⟨v,hK,hv⟩:=Y8i h
  refine ⟨v,hK,fun hρ hp=>?_⟩
  obtain ⟨z,h1,h2⟩:=hv (hρ x)
  exact Yld.of_run hp (by simp only [execOp,ho]; rw [Sem.run_bind,h1]; rfl) h2
 ·rename_i t x f ho
  obtain ⟨v,hK,hv⟩:=Y8h h
  refine ⟨v,hK,fun hρ hp=>?_⟩
  obtain ⟨z,h1,h2⟩:=hv (hρ x)
  exact Yld.of_run hp (by simp only [execOp,ho]; rw [Sem.run_bind,h1]; rfl) h2
 ·rename_i t x i ho
  obtain ⟨v,hK,hv⟩:=Y8c h
  refine ⟨v,hK,fun hρ hp=>?_⟩
  obtain ⟨z,h1,h2⟩:=hv (hρ x) (hρ i)
  exact Yld.of_run hp (by simp only [execOp,ho]; rw [Sem.run_bind,h1]; rfl) h2
 ·rename_i t x i ho
  obtain ⟨v,hK,hv⟩:=Y7W h
  refine ⟨v,hK,fun hρ hp=>?_⟩
  obtain ⟨z,h1,h2⟩:=hv (hρ x) (hρ i)
  exact Yld.of_run hp (by simp only [execOp,ho]; rw [Sem.run_bind,h1]; rfl) h2
 ·rename_i x i ho
  obtain ⟨v,hK,hv⟩:=Y8j (P:=P) h
  refine ⟨v,hK,fun hρ hp=>?_⟩
  obtain ⟨z,h1,h2⟩:=hv (hρ x)
  exact Yld.of_run hp (by simp only [execOp,ho]; rw [Sem.run_bind,h1]; rfl) h2
 ·rename_i args ts ho
  obtain ⟨x,t,rfl,rfl,h⟩:=h
  obtain ⟨v,hK,hv⟩:=Y5J (ty:=o.type) h
  refine ⟨v,hK,fun hρ hp=>?_⟩
  obtain ⟨z,h1,h2⟩:=hv (hρ x)
  exact Yld.of_run hp (by simp [execOp,ho,resolve,invoke,builtin,h1]) h2
 ·rename_i args ts ho
  obtain ⟨x,y,rfl,h⟩:=h
  obtain ⟨v,hK,hv⟩:=Y2s h
  refine ⟨v,hK,fun hρ hp=>?_⟩
  obtain ⟨k,k',n,m,e1,e2,h2⟩:=hv (hρ x) (hρ y)
  exact Yld.of_run hp (by simp [execOp,ho,resolve,invoke,builtin,e1,e2,run_min_int2,mnI]) h2
 ·rename_i args ts ho
  obtain ⟨x,y,rfl,h⟩:=h
  obtain ⟨v,hK,hv⟩:=Y2s h
  refine ⟨v,hK,fun hρ hp=>?_⟩
  obtain ⟨k,k',n,m,e1,e2,h2⟩:=hv (hρ x) (hρ y)
  exact Yld.of_run hp (by simp [execOp,ho,resolve,invoke,builtin,e1,e2,run_max_int2,mxI]) h2
 ·rename_i f args ts ho
  exact Y3U ho h
 ·exact h.elim
end
end
end Go.Proofs.YtchlpclgkhggeaaGreat