/- part of the proof -/
import Derived.Test.YtchlpclgkhggeaaGreatWFb
import Derived.IntWalk
namespace Go.Proofs.YtchlpclgkhggeaaGreat
open Go Go.RowKit
set_option linter.unusedVariables false
set_option linter.unusedSimpArgs false
def IC (P : Program) (f : FuncId) (args : List V) (H : List Ob) (r : V) (H1 : List Ob) : Prop :=
 Enters P f ∧ ∀ (w : World) (S B : BS) (κ : KM) (uss : List (List Nat)) (xs : List Value),Hp ⟨w,uss.flatten,S,B,0,κ⟩ H w κ S uss → RepL w S B κ args xs [] →
  Calls P f xs.toArray w fun e w'=>∃ x,e = .returned x ∧ ∃ (κ' : KM) (S' : BS) (uss' : List (List Nat)),Hp ⟨w,uss.flatten,S,B,0,κ⟩ H1 w' κ' S' uss' ∧ Rep w' S' B κ' r x []
def callI (P : Program) (f : V) (vs : List V) (H : List Ob) (K : V → List Ob → Prop) : Prop :=
 match f with
 | .fn (.func g) fs cs=>∃ r H1,IC P g (fs ++ vs ++ cs) H r H1 ∧ K r H1
 | _=>False
section
variable {P : Program} {E : Env} {o : Oper} {H : List Ob} {ρ : Operand → V} {K : V → List Ob → Prop}
theorem Y3T {f : Operand} {args : Array Operand} {ts : Array TypeId} (ho : o.op = .call { callee:=.value f,args,argTypes:=ts })
  (hq : callI P (ρ f) (args.toList.map ρ) H K) : ∃ v H',K v H' ∧ ∀ {E : Env} {a : Act} {w : World} {κ : KM} {S : BS} {uss : List (List Nat)},Sees E H ρ a w κ S uss → VOk P E o a w κ S v H':=by
 unfold callI at hq
 split at hq
 ·rename_i g fs cs hf
  obtain ⟨r,H1,hic,hK⟩:=hq
  refine ⟨_,_,hK,fun {E a w κ S uss} hcn=>?_⟩
  intro Kr Q hKr
  have hfr:=hcn.ev f
  rw [hf] at hfr
  obtain ⟨_,ys,zs,hv,h1,h2⟩:=hfr
  have hargs:=RepL.of_map hcn.ev args.toList
  have hall:=(h1.nils hargs).nils h2
  have h:=hcn.toHp
  have hpre : Hp ⟨w,uss.flatten,S,E.B,0,κ⟩ H w κ S uss:=⟨h.kl,h.al,h.ul,h.ob,h.nd,fun b hb=>by obtain ⟨q1,q2,q3,_⟩:=h.ow b hb; exact ⟨q1,q2,q3,.inr hb⟩,h.sb,fun _ h=>h,fun _ h=>.inl h,fun b hb=>h.bnd b (.inr hb),Keeps.refl _ _,fun _ _ h=>h⟩
  have hcall:=hic.2 w S E.B κ uss _ hpre hall
  have harr : (ys.toList ++ args.toList.map a.eval ++ zs.toList).toArray = ys ++ args.map a.eval ++ zs:=by
   apply Array.ext'; simp
  rw [harr] at hcall
  have hrun : (execOp a.eval o).run P w = .ok (.enter g (ys ++ args.map a.eval ++ zs)) w:=by
   have:=hic.1 (ys ++ args.map a.eval ++ zs) w
   simp only [execOp,ho,resolve,Deferred.ofValue,hv,Sem.run_bind,Sem.run_pure,Result.andThen_ok,invoke]
   exact this
  unfold Oper.wp
  rw [hrun]
  refine hcall.mono ?_
  rintro e w' ⟨x,rfl,κ1,S',u1,hp1,hr⟩
  have kp1 : Keeps uss.flatten w w':=hp1.kp
  have hnS : ∀ b,S b ∨ E.B b → b ∉ uss.flatten:=by
   rintro b (hb | hb) hm
   ·exact (h.ow b hm).1 hb
   ·exact (h.ow b hm).2.1 hb
  have hext : Ext w w' S S' E.B E.B κ κ1:=⟨hp1.s0,fun _ h=>h,hp1.kk,kp1.rm,fun b hb o=>World.cell?_of_block (w:=w) (kp1.block b (h.bnd b hb) (hnS b hb))⟩
  have hp' : Hp E H1 w' κ1 S' u1:={
   kl:=hp1.kl
   al:=hp1.al
   ul:=hp1.ul
   ob:=hp1.ob
   nd:=hp1.nd
   ow:=by
    intro b hb
    obtain ⟨q1,q2,q3,q4⟩:=hp1.ow b hb
    refine ⟨q1,q2,q3, ?_⟩
    rcases q4 with q4 | q4
    ·exact .inl (Nat.le_trans h.kp.size q4)
    ·exact (h.ow b q4).2.2.2
   sb:=hp1.sb
   s0:=fun b hb=>hp1.s0 b (h.s0 b hb)
   s1:=by
    intro b hb
    rcases hp1.s1 b hb with hb | hb | hb
    ·exact h.s1 b hb
    ·exact .inr (.inl (Nat.le_trans h.kp.size hb))
    ·exact .inr (h.ow b hb).2.2.2
   bb:=h.bb
   kp:=by
    refine ⟨kp1.os.trans h.kp.os,kp1.tape.trans h.kp.tape,kp1.output.trans h.kp.output,Nat.le_trans h.kp.size kp1.size,fun k hk1 hk2=>?_,fun b n hr=>kp1.rm _ _ (h.kp.rm _ _ hr)⟩
    refine (kp1.block k (Nat.lt_of_lt_of_le hk1 h.kp.size) (fun hm=>?_)).trans (h.kp.block k hk1 hk2)
    rcases (h.ow k hm).2.2.2 with q | q
    ·omega
    ·exact hk2 q
   kk:=fun id x hx=>hp1.kk id x (h.kk id x hx) }
  exact hKr _ _ _ _ _ hext hp' hr
 ·exact hq.elim
theorem Y6a {f : V} {vs : List V} {K' : V → List Ob → Prop} (hK : ∀ v H,K v H → K' v H) (h : callI P f vs H K) : callI P f vs H K':=by
 unfold callI at *
 split at h
 ·obtain ⟨r,H1,h1,h2⟩:=h; exact ⟨r,H1,h1,hK _ _ h2⟩
 ·exact h.elim
end
def StI (n0 : Nat) (s s' : St) : Prop:=∀ (E : Env) (a : Act) (w : World),E.K0.length ≤ n0 → CN E s a w → CN E s' a w
theorem StI.refl (n0 : Nat) (s : St) : StI n0 s s:=fun _ _ _ _ h=>h
theorem StI.trans {n0 : Nat} {a b c : St} (h : StI n0 a b) (k : StI n0 b c) : StI n0 a c:=fun E x w hn hc=>k E x w hn (h E x w hn hc)
def V.flat : V → Prop
 | .any | .lit _ | .emp | .ptr _ _ | .sl _ _ _ _=>True
 | _=>False
theorem Rep.flat {w : World} {S B B' : BS} {κ κ' : KM} {v : V} {x : Value} {us : List Nat} (hf : v.flat) (hb : ∀ b,B b → B' b) (h : Rep w S B κ v x us) : Rep w S B' κ' v x us:=by
 have he : Ext w w S S B B' [] []:=⟨fun _ h=>h,hb,fun _ _ h=>h,fun _ _ h=>h,fun _ _ _=>rfl⟩
 cases v with
 | any=>exact h
 | lit _=>exact h
 | emp=>exact h
 | ptr f cs=>exact Rep.ext (w:=w) (w':=w) [] [] he (.ptr f cs) x us (fun _ _ _=>rfl) h
 | sl f sz n cs=>exact Rep.ext (w:=w) (w':=w) [] [] he (.sl f sz n cs) x us (fun _ _ _=>rfl) h
 | agg _=>exact hf.elim
 | tup _=>exact hf.elim
 | fn _ _ _=>exact hf.elim
 | ref _ _=>exact hf.elim
 | mp _=>exact hf.elim
 | rsl _ _ _ _=>exact hf.elim
theorem Mem.flat {w : World} {S B B' : BS} {κ κ' : KM} (hb : ∀ b,B b → B' b) : ∀ {cs : List V} (hf : ∀ c ∈ cs,c.flat) {b o : Nat} {us : List Nat},Mem w S B κ cs b o us → Mem w S B' κ' cs b o us
 | [],_,_,_,_,h=>h
 | c :: cs,hf,b,o,us,⟨x,u1,u2,h1,h2,h3,h4⟩=>⟨x,u1,u2,h1,h2,Rep.flat (hf c (by simp)) hb h3,Mem.flat hb (fun c hc=>hf c (by simp [hc])) h4⟩
theorem RepL.flat {w : World} {S B B' : BS} {κ κ' : KM} (hb : ∀ b,B b → B' b) : ∀ {cs : List V} (hf : ∀ c ∈ cs,c.flat) {xs : List Value} {us : List Nat},RepL w S B κ cs xs us → RepL w S B' κ' cs xs us
 | [],_,_,_,h=>h
 | c :: cs,hf,xs,us,⟨x,xs',u1,u2,h1,h2,h3,h4⟩=>⟨x,xs',u1,u2,h1,h2,Rep.flat (hf c (by simp)) hb h3,RepL.flat hb (fun c hc=>hf c (by simp [hc])) h4⟩
theorem ObR.flat {w : World} {S B B' : BS} {κ κ' : KM} {ob : Ob} {k : Option Nat} {us : List Nat} (hb : ∀ b,B b → B' b) (hf : ∀ c ∈ ob.cs,c.flat) (h : ObR w S B κ ob k us) : ObR w S B' κ' ob k us:=by
 obtain ⟨st,ty,cs⟩:=ob
 cases st with
 | dead=>exact h
 | res=>exact h
 | mp=>obtain ⟨b,es,ck,h1,h2,h3,h4⟩:=h; exact ⟨b,es,ck,h1,h2,h3,RepL.flat hb hf h4⟩
 | frz=>exact ⟨h.1,h.2.imp (fun h=>h) fun ⟨b,arr,h1,h2,h3,h4⟩=>⟨b,arr,h1,h2,h3,Mem.flat hb hf h4⟩⟩
 | own=>exact h.imp (fun h=>h) fun ⟨b,arr,u,h1,h2,h3,h4⟩=>⟨b,arr,u,h1,h2,h3,Mem.flat hb hf h4⟩
mutual
def V.rn (g : Nat → Nat) : V → V
 | .ref id off=>.ref (g id) off
 | .mp id=>.mp (g id)
 | .rsl id sz o k=>.rsl (g id) sz o k
 | .agg vs=>.agg (V.rnL g vs)
 | .tup vs=>.tup (V.rnL g vs)
 | .fn f fs cs=>.fn f (V.rnL g fs) (V.rnL g cs)
 | .any=>.any
 | .lit v=>.lit v
 | .emp=>.emp
 | .ptr f cs=>.ptr f cs
 | .sl f sz k cs=>.sl f sz k cs
def V.rnL (g : Nat → Nat) : List V → List V
 | []=>[]
 | v :: vs=>V.rn g v :: V.rnL g vs
end
mutual
theorem Rep.rn {w : World} {S B : BS} {κ κ' : KM} {g : Nat → Nat} (hk : ∀ id x,kat κ id = some x → kat κ' (g id) = some x) : ∀ {v : V} {x : Value} {us : List Nat},Rep w S B κ v x us → Rep w S B κ' (v.rn g) x us
 | .any,_,_,h=>h
 | .lit _,_,_,h=>h
 | .emp,_,_,h=>h
 | .ptr _ _,_,_,h=>h
 | .sl _ _ _ _,_,_,h=>h
 | .agg _,_,_,⟨xs,h1,h2⟩=>⟨xs,h1,RepL.rn hk h2⟩
 | .tup _,_,_,⟨xs,h1,h2⟩=>⟨xs,h1,RepL.rn hk h2⟩
 | .fn _ _ _,_,_,⟨h0,ys,zs,h1,h2,h3⟩=>⟨h0,ys,zs,h1,RepL.rn hk h2,RepL.rn hk h3⟩
 | .ref id off,_,_,⟨h0,b,h1,h2⟩=>⟨h0,b,hk _ _ h1,h2⟩
 | .mp id,_,_,⟨h0,b,h1,h2⟩=>⟨h0,b,hk _ _ h1,h2⟩
 | .rsl id sz o n,_,_,⟨h0,h1⟩=>⟨h0,h1.imp (fun h=>⟨hk _ _ h.1,h.2⟩) fun ⟨b,c,h,r⟩=>⟨b,c,hk _ _ h,r⟩⟩
theorem RepL.rn {w : World} {S B : BS} {κ κ' : KM} {g : Nat → Nat} (hk : ∀ id x,kat κ id = some x → kat κ' (g id) = some x) : ∀ {vs : List V} {xs : List Value} {us : List Nat},RepL w S B κ vs xs us → RepL w S B κ' (V.rnL g vs) xs us
 | [],_,_,h=>h
 | _ :: _,_,_,⟨x,xs',u1,u2,h1,h2,h3,h4⟩=>⟨x,xs',u1,u2,h1,h2,Rep.rn hk h3,RepL.rn hk h4⟩
end
def GC (P : Program) (f : FuncId) (args : List V) (H0 : List Ob) (r : V) (H1 : List Ob) : Prop :=
 Enters P f ∧ ∀ (w : World) (S B : BS) (κ : KM) (uss : List (List Nat)) (xs : List Value),Hp ⟨w,uss.flatten,S,B,0,[]⟩ H0 w κ S uss → RepL w S B κ args xs [] →
  Calls P f xs.toArray w fun e w'=>∃ x,e = .returned x ∧ ∃ (κ' : KM) (S' : BS) (uss' : List (List Nat)),Hp ⟨w,uss.flatten,S,fun _=>False,0,κ⟩ H1 w' κ' S' uss' ∧ Rep w' S' (fun _=>False) κ' r x []
def kil : List Ob → List Nat → List Ob
 | H,[]=>H
 | H,j :: js=>kil (H.set j ⟨.dead,0,[]⟩) js
def clr : List (List Nat) → List Nat → List (List Nat)
 | u,[]=>u
 | u,j :: js=>clr (u.set j []) js
mutual
inductive Ag (H : List Ob) (js : List Nat) : V → V → Prop
 | le (v v' : V) : Le (kil H js) .b v v' → Ag H js v v'
 | ref (id i off : Nat) : js[i]? = some id → Ag H js (.ref id off) (.ref i off)
 | rsl (id i sz o n : Nat) : js[i]? = some id → Ag H js (.rsl id sz o n) (.rsl i sz o n)
 | agg (vs vs' : List V) : AgL H js vs vs' → Ag H js (.agg vs) (.agg vs')
inductive AgL (H : List Ob) (js : List Nat) : List V → List V → Prop
 | nil : AgL H js [] []
 | cons (v v' : V) (vs vs' : List V) : Ag H js v v' → AgL H js vs vs' → AgL H js (v :: vs) (v' :: vs')
end
def hdOk (H : List Ob) : List Nat → List Ob → Prop
 | [],[]=>True
 | j :: js,ob :: H0=>(H[j]? = some ob ∧ ob.st = .own ∧ ∀ c ∈ ob.cs,c.flat) ∧ hdOk H js H0
 | _,_=>False
def putO : List Ob → List Nat → List Ob → List Ob
 | H,j :: js,ob :: H1=>putO (H.set j ob) js H1
 | H,_,_=>H
def tailO : List Nat → List Ob → List Ob
 | [],H1=>H1
 | _ :: js,_ :: H1=>⟨.dead,0,[]⟩ :: tailO js H1
 | _ :: _,[]=>[]
def rnI (js : List Nat) (n i : Nat) : Nat:=(js[i]?).getD (n + i)
def callG (P : Program) (f : V) (vs : List V) (H : List Ob) (K : V → List Ob → Prop) : Prop :=
 match f with
 | .fn (.func g) fs cs=>∃ js args H0 r H1,js.Nodup ∧ hdOk H js H0 ∧ AgL H js (fs ++ vs ++ cs) args ∧ GC P g args H0 r H1 ∧ js.length ≤ H1.length ∧ (∀ ob ∈ H1,ob.st ≠ .res ∧ ∀ c ∈ ob.cs,c.flat) ∧
   K (r.rn (rnI js H.length)) (putO H js H1 ++ tailO js H1)
 | _=>False
section
variable {P : Program} {E : Env}
theorem Q3q : ∀ {uss : List (List Nat)},(∀ us ∈ uss,us.Nodup) → (∀ (i j : Nat) (a b : List Nat),uss[i]? = some a → uss[j]? = some b → i ≠ j → ∀ x ∈ a,x ∉ b) → uss.flatten.Nodup
 | [],_,_=>by simp
 | us :: uss,h1,h2=>by
  rw [List.flatten_cons,List.nodup_append]
  refine ⟨h1 us (by simp),Q3q (fun u hu=>h1 u (by simp [hu])) (fun i j a b hi hj hij=>h2 (i + 1) (j + 1) a b (by simpa using hi) (by simpa using hj) (by omega)), ?_⟩
  rintro x hx y hy rfl
  obtain ⟨l,hl,hxl⟩:=List.mem_flatten.1 hy
  obtain ⟨i,hi⟩:=List.getElem?_of_mem hl
  exact h2 0 (i + 1) us l rfl (by simpa using hi) (by omega) x hx hxl
theorem Hp.kilAll : ∀ (js : List Nat) {H : List Ob} {w : World} {κ : KM} {S : BS} {uss : List (List Nat)},Hp E H w κ S uss → Hp E (kil H js) w κ S (clr uss js)
 | [],_,_,_,_,_,h=>h
 | j :: js,H,w,κ,S,uss,h=>by
  have h1:=h.kill j ⟨.own,0,[]⟩
  exact Hp.kilAll js h1
theorem X9V : ∀ (js : List Nat) (H : List Ob),(kil H js).length = H.length
 | [],_=>rfl
 | j :: js,H=>by unfold kil; rw [X9V js]; simp
theorem Y0b : ∀ (js : List Nat) (u : List (List Nat)),(clr u js).length = u.length
 | [],_=>rfl
 | j :: js,u=>by unfold clr; rw [Y0b js]; simp
theorem Y3R : ∀ (js : List Nat) (u : List (List Nat)) (i : Nat),(clr u js)[i]? = if i ∈ js ∧ i < u.length then some [] else u[i]?
 | [],u,i=>by simp [clr]
 | j :: js,u,i=>by
  unfold clr
  rw [Y3R js]
  simp only [List.length_set,List.mem_cons]
  by_cases h : i < u.length
  ·by_cases e : i ∈ js
   ·simp [e,h]
   ·simp only [e,false_and,if_false,or_false,h,and_true]
    rw [List.getElem?_set]
    by_cases e' : i = j
    ·subst e'; simp [h]
    ·have : ¬ j = i:=fun h=>e' h.symm
     simp [e',this]
  ·simp only [h,and_false,if_false]
   rw [List.getElem?_set]
   split
   ·rename_i e; subst e; simp [h]; 
   ·rfl
theorem X8j : ∀ (js : List Nat) (u : List (List Nat)),∀ b ∈ (clr u js).flatten,b ∈ u.flatten
 | [],_,_,h=>h
 | j :: js,u,b,h=>by
  have:=X8j js _ b h
  rcases Q2m this with h | h
  ·simp at h
  ·exact h
theorem Hp.move {H : List Ob} {w : World} {κ : KM} {S : BS} {uss : List (List Nat)} (h : Hp E H w κ S uss) {i j : Nat} {ob : Ob} {us : List Nat} (hij : i ≠ j) (hi : H[i]? = some ob) (hu : uss[i]? = some us) (hj : j < H.length)
  (hju : uss[j]? = some []) (hst : ob.st ≠ .res) (hk : ∀ k,kat κ i = some k → kat κ j = some k) (hr : ∀ k,kat κ j = some k → ObR w S E.B κ ob k us) (t : TypeId) : Hp E ((H.set j ob).set i ⟨.dead,t,[]⟩) w κ S ((uss.set j us).set i []):=by
 have hil : i < H.length:=(List.getElem?_eq_some_iff.1 hi).1
 have hiu : i < uss.length:=(List.getElem?_eq_some_iff.1 hu).1
 have hjl : j < uss.length:=(List.getElem?_eq_some_iff.1 hju).1
 have hget : ∀ n a,((uss.set j us).set i [])[n]? = some a → (n = i ∧ a = []) ∨ (n = j ∧ a = us) ∨ (n ≠ i ∧ n ≠ j ∧ uss[n]? = some a):=by
  intro n a hn
  rw [List.getElem?_set] at hn
  by_cases e : i = n
  ·rw [if_pos e,if_pos (by simpa using hiu)] at hn
   exact .inl ⟨e.symm,(Option.some.inj hn).symm⟩
  ·rw [if_neg e,List.getElem?_set] at hn
   by_cases e' : j = n
   ·rw [if_pos e',if_pos hjl] at hn
    exact .inr (.inl ⟨e'.symm,(Option.some.inj hn).symm⟩)
   ·rw [if_neg e'] at hn
    exact .inr (.inr ⟨fun h=>e h.symm,fun h=>e' h.symm,hn⟩)
 refine { kl:=by simp [h.kl],al:=?_,ul:=by simp [h.ul],ob:=?_,nd:=?_,ow:=?_,sb:=h.sb,s0:=h.s0,s1:=h.s1,bb:=h.bb,kp:=h.kp,kk:=h.kk }
 ·intro n ob' hn st
  rw [List.getElem?_set] at hn
  by_cases e : i = n
  ·rw [if_pos e,if_pos (by simpa using hil)] at hn
   obtain rfl:=Option.some.inj hn; rcases st with st | st <;> cases st
  ·rw [if_neg e,List.getElem?_set] at hn
   by_cases e' : j = n
   ·rw [if_pos e',if_pos hj] at hn
    obtain rfl:=Option.some.inj hn
    obtain ⟨k,hk1⟩:=h.al i ob hi st
    subst e'
    exact ⟨k,hk k hk1⟩
   ·rw [if_neg e'] at hn; exact h.al n ob' hn st
 ·intro n ob' k us' hn hkn hun
  rcases hget n us' hun with ⟨rfl,rfl⟩ | ⟨rfl,rfl⟩ | ⟨e1,e2,e3⟩
  ·rw [List.getElem?_set_self (by simpa using hil)] at hn
   obtain rfl:=Option.some.inj hn
   exact rfl
  ·rw [List.getElem?_set,if_neg hij,List.getElem?_set_self (by simpa using hj)] at hn
   obtain rfl:=Option.some.inj hn
   exact hr k hkn
  ·rw [List.getElem?_set,if_neg (fun h=>e1 h.symm),List.getElem?_set,if_neg (fun h=>e2 h.symm)] at hn
   exact h.ob n ob' k us' hn hkn e3
 ·refine Q3q ?_ ?_
  ·intro us' hm
   obtain ⟨n,hn⟩:=List.getElem?_of_mem hm
   rcases hget n us' hn with ⟨_,rfl⟩ | ⟨_,rfl⟩ | ⟨_,_,e⟩
   ·simp
   ·exact Q0q h.nd (List.mem_of_getElem? hu)
   ·exact Q0q h.nd (List.mem_of_getElem? e)
  ·intro n m a b hn hm hnm x hx
   rcases hget n a hn with ⟨rfl,rfl⟩ | ⟨rfl,rfl⟩ | ⟨n1,n2,n3⟩
   ·simp at hx
   ·rcases hget m b hm with ⟨rfl,rfl⟩ | ⟨rfl,rfl⟩ | ⟨m1,m2,m3⟩
    ·simp
    ·exact absurd rfl hnm
    ·exact Q0j h.nd hu m3 (fun h=>m1 h.symm) x hx
   ·rcases hget m b hm with ⟨rfl,rfl⟩ | ⟨rfl,rfl⟩ | ⟨m1,m2,m3⟩
    ·simp
    ·exact Q0j h.nd n3 hu n1 x hx
    ·exact Q0j h.nd n3 m3 hnm x hx
 ·intro b hb
  obtain ⟨l,hl,hbl⟩:=List.mem_flatten.1 hb
  obtain ⟨n,hn⟩:=List.getElem?_of_mem hl
  rcases hget n l hn with ⟨_,rfl⟩ | ⟨_,rfl⟩ | ⟨_,_,e⟩
  ·simp at hbl
  ·exact h.ow b (List.mem_flatten.2 ⟨_,List.mem_of_getElem? hu,hbl⟩)
  ·exact h.ow b (List.mem_flatten.2 ⟨_,List.mem_of_getElem? e,hbl⟩)
theorem Y2z {H : List Ob} : ∀ {js : List Nat} {H0 : List Ob},hdOk H js H0 → H0.length = js.length ∧ ∀ (i : Nat) (ob : Ob),H0[i]? = some ob → ∃ j,js[i]? = some j ∧ H[j]? = some ob ∧ ob.st = .own ∧ ∀ c ∈ ob.cs,c.flat
 | [],[],_=>⟨rfl,by intro i ob h; simp at h⟩
 | j :: js,ob :: H0,h=>by
  obtain ⟨h1,h2⟩:=Y2z h.2
  refine ⟨by simp [h1], ?_⟩
  intro i ob' hi
  cases i with
  | zero =>
   simp only [List.getElem?_cons_zero,Option.some.injEq] at hi
   subst hi; exact ⟨j,rfl,h.1⟩
  | succ i=>exact h2 i ob' (by simpa using hi)
theorem moves {w : World} {κ : KM} {S : BS} {n : Nat} : ∀ {js : List Nat} {H1 A D : List Ob} {ua ud u1 : List (List Nat)},Hp E (A ++ (D ++ H1)) w κ S (ua ++ (ud ++ u1)) → A.length = n → ua.length = n → D.length = ud.length → js.Nodup → js.length ≤ H1.length →
  (∀ (i j : Nat),js[i]? = some j → j < n ∧ ua[j]? = some [] ∧ ∃ k,kat κ (n + (D.length + i)) = some k ∧ kat κ j = some k) → (∀ ob ∈ H1,ob.st ≠ .res ∧ ∀ c ∈ ob.cs,c.flat) →
  ∃ uss',Hp E (putO A js H1 ++ (D ++ tailO js H1)) w κ S uss'
 | [],H1,A,D,ua,ud,u1,h,_,_,_,_,_,_,_=>by
  have e : putO A [] H1 = A:=by cases H1 <;> rfl
  rw [e]; exact ⟨_,h⟩
 | j :: js,[],_,_,_,_,_,_,_,_,_,_,hl,_,_=>by simp at hl
 | j :: js,ob :: H1,A,D,ua,ud,[],h,hA,hua,hD,_,_,_,_=>by
  have:=h.ul
  simp only [List.length_append,List.length_cons,List.length_nil] at this
  omega
 | j :: js,ob :: H1,A,D,ua,ud,us :: u1,h,hA,hua,hD,hnd,hl,hjs,hfl=>by
  obtain ⟨hj,hju,k,hk1,hk2⟩:=hjs 0 j rfl
  have hi : (A ++ (D ++ ob :: H1))[n + D.length]? = some ob:=by
   rw [List.getElem?_append_right (by omega),List.getElem?_append_right (by omega),show n + D.length - A.length - D.length = 0 by omega]; rfl
  have hu : (ua ++ (ud ++ us :: u1))[n + D.length]? = some us:=by
   rw [List.getElem?_append_right (by omega),List.getElem?_append_right (by omega),show n + D.length - ua.length - ud.length = 0 by omega]; rfl
  have hju' : (ua ++ (ud ++ us :: u1))[j]? = some []:=by rw [List.getElem?_append_left (by omega)]; exact hju
  have hm:=h.move (i:=n + D.length) (j:=j) (by omega) hi hu (by simp; omega) hju' (hfl ob (by simp)).1
   (fun k' hk'=>by have e:=hk1; rw [Nat.add_zero] at e; rw [e] at hk'; rw [hk2]; exact hk')
   (fun k' hk'=>by
    rw [hk2] at hk'; obtain rfl:=Option.some.inj hk'
    have e:=hk1; rw [Nat.add_zero] at e
    exact h.ob _ ob k us hi e hu) 0
  have e1 : ((A ++ (D ++ ob :: H1)).set j ob).set (n + D.length) ⟨.dead,0,[]⟩ = A.set j ob ++ ((D ++ [⟨.dead,0,[]⟩]) ++ H1):=by
   rw [List.set_append_left _ _ (by omega),List.set_append_right _ _ (by simp; omega),List.set_append_right _ _ (by simp; omega)]
   simp only [List.length_set]
   rw [show n + D.length - A.length - D.length = 0 by omega]
   simp
  have e2 : ((ua ++ (ud ++ us :: u1)).set j us).set (n + D.length) [] = ua.set j us ++ ((ud ++ [[]]) ++ u1):=by
   rw [List.set_append_left _ _ (by omega),List.set_append_right _ _ (by simp; omega),List.set_append_right _ _ (by simp; omega)]
   simp only [List.length_set]
   rw [show n + D.length - ua.length - ud.length = 0 by omega]
   simp
  rw [e1,e2] at hm
  obtain ⟨hnd1,hnd2⟩:=List.nodup_cons.1 hnd
  obtain ⟨uss',hf⟩:=moves (js:=js) hm (by simpa using hA) (by simpa using hua) (by simp [hD]) hnd2 (by simpa using hl) (by
   intro i j' hi'
   obtain ⟨q1,q2,k',q3,q4⟩:=hjs (i + 1) j' (by simpa using hi')
   refine ⟨q1, ?_,k', ?_,q4⟩
   ·rw [List.getElem?_set,if_neg (by rintro rfl; exact hnd1 (List.mem_of_getElem? hi'))]; exact q2
   ·rw [← q3]; congr 1; simp; omega) (fun ob' h'=>hfl ob' (by simp [h']))
  refine ⟨uss', ?_⟩
  show Hp E (putO (A.set j ob) js H1 ++ (D ++ ⟨.dead,0,[]⟩ :: tailO js H1)) w κ S uss'
  rw [List.append_cons D]
  exact hf
mutual
theorem Ag.rep {H : List Ob} {w : World} {κ κ0 : KM} {S B0 : BS} {uss : List (List Nat)} {js : List Nat} {E : Env} (hle : LeOk (kil H js) .b w S E.B S B0 κ uss) (hk : ∀ (i j : Nat) (x : Option Nat),js[i]? = some j → kat κ j = some x → kat κ0 i = some x) : ∀ {v v' : V},Ag H js v v' → ∀ {x : Value},Rep w S E.B κ v x [] → Rep w S B0 κ0 v' x []
 | _,v',.le _ _ h,x,hr=>by
  have:=Le.sound (by intro h; cases h) (fun _ h=>h) h (hle.b) (.inr ⟨rfl,_,hle⟩) (by simp) hr
  exact Rep.ext (w:=w) (w':=w) [] κ0 ⟨fun _ h=>h,fun _ h=>h,fun _ _ h=>by simp at h,fun _ _ h=>h,fun _ _ _=>rfl⟩ _ _ _ (by simp) this
 | _,_,.ref id i off h,x,⟨h0,b,h1,h2⟩=>⟨h0,b,hk _ _ _ h h1,h2⟩
 | _,_,.rsl id i sz o n h,x,⟨h0,h1⟩=>⟨h0,h1.imp (fun q=>⟨hk _ _ _ h q.1,q.2⟩) fun ⟨b,c,q,r⟩=>⟨b,c,hk _ _ _ h q,r⟩⟩
 | _,_,.agg vs vs' h,x,⟨xs,h1,h2⟩=>⟨xs,h1,AgL.rep hle hk h h2⟩
theorem AgL.rep {H : List Ob} {w : World} {κ κ0 : KM} {S B0 : BS} {uss : List (List Nat)} {js : List Nat} {E : Env} (hle : LeOk (kil H js) .b w S E.B S B0 κ uss) (hk : ∀ (i j : Nat) (x : Option Nat),js[i]? = some j → kat κ j = some x → kat κ0 i = some x) : ∀ {vs vs' : List V},AgL H js vs vs' → ∀ {xs : List Value},RepL w S E.B κ vs xs [] → RepL w S B0 κ0 vs' xs []
 | _,_,.nil,xs,hr=>⟨hr.1,rfl⟩
 | _,_,.cons v v' vs vs' h1 h2,xs,⟨x,xs',u1,u2,e1,e2,e3,e4⟩=>by
  obtain ⟨rfl,rfl⟩ : u1 = [] ∧ u2 = []:=by simpa using e2.symm
  exact ⟨x,xs',[],[],e1,rfl,Ag.rep hle hk h1 e3,AgL.rep hle hk h2 e4⟩
end
theorem Hp.callg {H : List Ob} {w : World} {κ : KM} {S : BS} {uss : List (List Nat)} (h : Hp E H w κ S uss) {f : FuncId} {vs args : List V} {H0 H1 : List Ob} {r : V} {xs : List Value} {js : List Nat} (hnd : js.Nodup) (hok : hdOk H js H0) (hag : AgL H js vs args)
  (hr : RepL w S E.B κ vs xs []) (hgc : GC P f args H0 r H1) (hlen : js.length ≤ H1.length) (hfl : ∀ ob ∈ H1,ob.st ≠ .res ∧ ∀ c ∈ ob.cs,c.flat) :
  Calls P f xs.toArray w fun e w'=>∃ x,e = .returned x ∧ ∃ κ' S' uss',Ext w w' S S' E.B E.B κ κ' ∧ Hp E (putO H js H1 ++ tailO js H1) w' κ' S' uss' ∧ Rep w' S' E.B κ' (r.rn (rnI js H.length)) x []:=by
 obtain ⟨hl0,hsp⟩:=Y2z hok
 have hjs : ∀ (i j : Nat),js[i]? = some j → ∃ ob k us,H0[i]? = some ob ∧ H[j]? = some ob ∧ ob.st = .own ∧ (∀ c ∈ ob.cs,c.flat) ∧ kat κ j = some k ∧ uss[j]? = some us:=by
  intro i j hij
  have hlt:=(List.getElem?_eq_some_iff.1 hij).1
  obtain ⟨j',e1,e2,e3,e4⟩:=hsp i H0[i] (List.getElem?_eq_getElem (by omega))
  obtain rfl : j = j':=by rw [hij] at e1; exact Option.some.inj e1
  obtain ⟨k,hk⟩:=h.al j _ e2 (.inl e3)
  have hjl : j < uss.length:=by rw [h.ul]; exact (List.getElem?_eq_some_iff.1 e2).1
  exact ⟨_,k,uss[j],List.getElem?_eq_getElem (by omega),e2,e3,e4,hk,List.getElem?_eq_getElem hjl⟩
 let κ0 : KM:=js.map fun j=>(κ[j]?).join
 let u0 : List (List Nat):=js.map fun j=>(uss[j]?).getD []
 let B0 : BS:=fun b=>E.B b ∨ b ∈ (clr uss js).flatten
 have hκ0 : ∀ (i j : Nat),js[i]? = some j → kat κ0 i = kat κ j:=by
  intro i j hij
  show (κ0[i]?).join = (κ[j]?).join
  simp only [κ0,List.getElem?_map,hij,Option.map_some]
  rfl
 have hu0 : ∀ (i : Nat) (us : List Nat),u0[i]? = some us → ∃ j,js[i]? = some j ∧ uss[j]? = some us:=by
  intro i us hi
  simp only [u0,List.getElem?_map] at hi
  cases hj : js[i]? with
  | none=>rw [hj] at hi; cases hi
  | some j =>
   rw [hj] at hi
   obtain ⟨_,_,us',_,_,_,_,_,e⟩:=hjs i j hj
   simp only [Option.map_some,e,Option.getD_some,Option.some.injEq] at hi
   subst hi
   exact ⟨j,rfl,e⟩
 have hmu : ∀ b ∈ u0.flatten,∃ (i j : Nat) (us : List Nat),js[i]? = some j ∧ uss[j]? = some us ∧ b ∈ us:=by
  intro b hb
  obtain ⟨l,hl,hbl⟩:=List.mem_flatten.1 hb
  obtain ⟨i,hi⟩:=List.getElem?_of_mem hl
  obtain ⟨j,e1,e2⟩:=hu0 i l hi
  exact ⟨i,j,l,e1,e2,hbl⟩
 have hmf : ∀ b ∈ u0.flatten,b ∈ uss.flatten:=by
  intro b hb
  obtain ⟨i,j,us,_,e2,e3⟩:=hmu b hb
  exact List.mem_flatten.2 ⟨us,List.mem_of_getElem? e2,e3⟩
 have hapart : ∀ b ∈ u0.flatten,b ∉ (clr uss js).flatten:=by
  intro b hb hc
  obtain ⟨i,j,us,e1,e2,e3⟩:=hmu b hb
  obtain ⟨l,hl,hbl⟩:=List.mem_flatten.1 hc
  obtain ⟨n,hn⟩:=List.getElem?_of_mem hl
  rw [Y3R] at hn
  split at hn
  ·obtain rfl:=Option.some.inj hn; simp at hbl
  ·rename_i hne
   have hjn : j ≠ n:=by
    rintro rfl
    exact hne ⟨List.mem_of_getElem? e1,(List.getElem?_eq_some_iff.1 e2).1⟩
   exact Q0j h.nd e2 hn hjn b e3 hbl
 have hk:=h.kilAll js
 have hpre : Hp ⟨w,u0.flatten,S,B0,0,[]⟩ H0 w κ0 S u0:=by
  refine { kl:=by simp [κ0,hl0],al:=?_,ul:=by simp [u0,hl0],ob:=?_,nd:=?_,ow:=?_,sb:=h.sb,s0:=fun _ h=>h,s1:=fun _ h=>.inl h,bb:=?_,kp:=Keeps.refl _ _,kk:=fun _ _ h=>by simp at h }
  ·intro i ob hi _
   obtain ⟨j,e1,e2,e3,_⟩:=hsp i ob hi
   obtain ⟨k,hk⟩:=h.al j ob e2 (.inl e3)
   exact ⟨k,by rw [hκ0 i j e1]; exact hk⟩
  ·intro i ob k us hi hki hui
   obtain ⟨j,e1,e2,e3,e4⟩:=hsp i ob hi
   obtain ⟨j',e5,e6⟩:=hu0 i us hui
   obtain rfl : j = j':=by rw [e1] at e5; exact Option.some.inj e5
   rw [hκ0 i j e1] at hki
   exact (h.ob j ob k us e2 hki e6).flat (fun _ h=>.inl h) e4
  ·refine Q3q ?_ ?_
   ·intro us hm
    obtain ⟨i,hi⟩:=List.getElem?_of_mem hm
    obtain ⟨j,_,e⟩:=hu0 i us hi
    exact Q0q h.nd (List.mem_of_getElem? e)
   ·intro i i' a b hi hi' hii
    obtain ⟨j,e1,e2⟩:=hu0 i a hi
    obtain ⟨j',e3,e4⟩:=hu0 i' b hi'
    refine Q0j h.nd e2 e4 ?_
    rintro rfl
    have l1:=(List.getElem?_eq_some_iff.1 e1)
    have l2:=(List.getElem?_eq_some_iff.1 e3)
    exact hii ((List.getElem_inj hnd).1 (l1.2.trans l2.2.symm))
  ·intro b hb
   obtain ⟨q1,q2,q3,_⟩:=h.ow b (hmf b hb)
   exact ⟨q1,fun hB=>hB.elim q2 (hapart b hb),q3,.inr hb⟩
  ·rintro b (hb | hb)
   ·exact h.bnd b (.inr hb)
   ·exact (h.ow b (X8j js uss b hb)).2.2.1
 have hargs : RepL w S B0 κ0 args xs []:=AgL.rep (E:=E) (uss:=clr uss js) hk.leok (fun i j x h1 h2=>by rw [hκ0 i j h1]; exact h2) hag hr
 refine (hgc.2 w S B0 κ0 u0 xs hpre hargs).mono ?_
 rintro e w' ⟨x,rfl,κ1,S',u1,hp1,hrx⟩
 have hkk : ∀ (id : Nat) (x : Option Nat),kat κ0 id = some x → kat κ1 id = some x:=hp1.kk
 have kp1 : Keeps u0.flatten w w':=hp1.kp
 have hS' : ∀ b,S' b → S b ∨ w.heap.size ≤ b ∨ b ∈ u0.flatten:=hp1.s1
 have hnS : ∀ b,S b ∨ E.B b → b ∉ u0.flatten:=by
  rintro b (hb | hb) hm
  ·exact (h.ow b (hmf b hm)).1 hb
  ·exact (h.ow b (hmf b hm)).2.1 hb
 have hblk : ∀ b,S b ∨ E.B b → w'.heap[b]? = w.heap[b]?:=fun b hb=>kp1.block b (h.bnd b hb) (hnS b hb)
 have hext : ∀ κ',(∀ (id : Nat) (x : Option Nat),kat κ id = some x → kat κ' id = some x) → Ext w w' S S' E.B E.B κ κ':=fun κ' hk'=>⟨hp1.s0,fun _ h=>h,hk',kp1.rm,fun b hb o=>World.cell?_of_block (w:=w) (hblk b hb)⟩
 have hw1 : Hp E (kil H js) w' κ S' (clr uss js):=by
  refine { kl:=hk.kl,al:=hk.al,ul:=hk.ul,ob:=?_,nd:=hk.nd,ow:=?_,sb:=hp1.sb,s0:=fun b hb=>hp1.s0 b (h.s0 b hb),s1:=?_,bb:=h.bb,kp:=?_,kk:=h.kk }
  ·intro i ob k us hi hki hui
   refine (hk.ob i ob k us hi hki hui).ext (hext κ fun _ _ h=>h) ?_
   rintro b (hb | hb)
   ·exact hblk b (.inl hb)
   ·have hc : b ∈ (clr uss js).flatten:=List.mem_flatten.2 ⟨us,List.mem_of_getElem? hui,hb⟩
    exact kp1.block b (h.ow b (X8j js uss b hc)).2.2.1 (fun hm=>hapart b hm hc)
  ·intro b hb
   obtain ⟨q1,q2,q3,q4⟩:=h.ow b (X8j js uss b hb)
   refine ⟨fun hs=>?_,q2,Nat.lt_of_lt_of_le q3 kp1.size,q4⟩
   rcases hS' b hs with hs | hs | hs
   ·exact q1 hs
   ·omega
   ·exact hapart b hs hb
  ·intro b hb
   rcases hS' b hb with hb | hb | hb
   ·exact h.s1 b hb
   ·exact .inr (.inl (Nat.le_trans h.kp.size hb))
   ·exact .inr (h.ow b (hmf b hb)).2.2.2
  ·refine ⟨kp1.os.trans h.kp.os,kp1.tape.trans h.kp.tape,kp1.output.trans h.kp.output,Nat.le_trans h.kp.size kp1.size,fun k hk1 hk2=>?_,fun b n hr=>kp1.rm _ _ (h.kp.rm _ _ hr)⟩
   refine (kp1.block k (Nat.lt_of_lt_of_le hk1 h.kp.size) (fun hm=>?_)).trans (h.kp.block k hk1 hk2)
   rcases (h.ow k (hmf k hm)).2.2.2 with q | q
   ·omega
   ·exact hk2 q
 have hw2:=hw1.append (objs:=H1) (κ':=κ1) (uss':=u1) hp1.kl hp1.al hp1.ul
  (fun i ob k us hi hki hui=>(hp1.ob i ob k us hi hki hui).flat (fun _ h=>h.elim) (hfl ob (List.mem_of_getElem? hi)).2) hp1.nd (by
   intro b hb
   obtain ⟨q1,_,q3,q4⟩:=hp1.ow b hb
   have q4 : w.heap.size ≤ b ∨ b ∈ u0.flatten:=q4
   refine ⟨q1,fun hB=>?_,q3, ?_,fun hc=>?_⟩
   ·rcases q4 with q4 | q4
    ·have:=h.bnd b (.inr hB); omega
    ·exact (h.ow b (hmf b q4)).2.1 hB
   ·rcases q4 with q4 | q4
    ·exact .inl (Nat.le_trans h.kp.size q4)
    ·exact (h.ow b (hmf b q4)).2.2.2
   ·rcases q4 with q4 | q4
    ·have:=(h.ow b (X8j js uss b hc)).2.2.1; omega
    ·exact hapart b q4 hc)
 have hkl:=h.kl
 have hup : ∀ (i j : Nat),js[i]? = some j → ∃ k,kat κ1 i = some k ∧ kat κ j = some k:=by
  intro i j hij
  obtain ⟨_,k,_,_,_,_,_,e,_⟩:=hjs i j hij
  exact ⟨k,hkk i k (by rw [hκ0 i j hij]; exact e),e⟩
 obtain ⟨uss',hw3⟩:=moves (n:=H.length) (js:=js) (H1:=H1) (A:=kil H js) (D:=[]) (ua:=clr uss js) (ud:=[]) (u1:=u1) hw2 (X9V _ _) (by rw [Y0b,h.ul]) rfl hnd hlen (by
  intro i j hij
  obtain ⟨ob,k,us,_,e2,_,_,_,e3⟩:=hjs i j hij
  have hjl:=(List.getElem?_eq_some_iff.1 e2).1
  refine ⟨hjl, ?_, ?_⟩
  ·rw [Y3R,if_pos ⟨List.mem_of_getElem? hij,(List.getElem?_eq_some_iff.1 e3).1⟩]
  ·obtain ⟨k,q1,q2⟩:=hup i j hij
   refine ⟨k, ?_, ?_⟩
   ·rw [Q3g (by rw [hkl]; simp),hkl]
    rw [← q1]; congr 1; simp
   ·rw [X3x (by rw [hkl]; exact hjl)]; exact q2) hfl
 have key : ∀ (js : List Nat) (A : List Ob) (j : Nat) (ob : Ob),j ∉ js → (kil A js).set j ob = kil (A.set j ob) js:=by
  intro js
  induction js with
  | nil=>intro A j ob _; rfl
  | cons i js ih =>
   intro A j ob hn
   simp only [List.mem_cons,not_or] at hn
   show (kil (A.set i _) js).set j ob = kil ((A.set j ob).set i _) js
   rw [ih _ _ _ hn.2,List.set_comm _ _ (fun h=>hn.1 h.symm)]
 have key2 : ∀ (js : List Nat) (A H1 : List Ob),js.Nodup → js.length ≤ H1.length → putO (kil A js) js H1 = putO A js H1:=by
  intro js
  induction js with
  | nil=>intro A H1 _ _; cases H1 <;> rfl
  | cons j js ih =>
   intro A H1 hn hl
   obtain ⟨h1,h2⟩:=List.nodup_cons.1 hn
   cases H1 with
   | nil=>simp at hl
   | cons ob H1 =>
    show putO ((kil (A.set j _) js).set j ob) js H1 = putO (A.set j ob) js H1
    rw [key _ _ _ _ h1,List.set_set]
    exact ih _ _ h2 (by simpa using hl)
 rw [key2 js H H1 hnd hlen] at hw3
 refine ⟨x,rfl,κ ++ κ1,S',uss',hext _ (Q1R _),by simpa using hw3, ?_⟩
 have hrx' : Rep w' S' E.B κ1 r x []:=Rep.up (fun _ _ h=>h) hrx
 refine Rep.rn ?_ hrx'
 intro id y hy
 unfold rnI
 cases hj : js[id]? with
 | none =>
  simp only [Option.getD_none]
  rw [Q3g (by rw [hkl]; omega),hkl,Nat.add_sub_cancel_left]; exact hy
 | some j =>
  simp only [Option.getD_some]
  obtain ⟨ob,_,_,_,e2,_⟩:=hjs id j hj
  obtain ⟨k,q1,q2⟩:=hup id j hj
  rw [X3x (by rw [hkl]; exact (List.getElem?_eq_some_iff.1 e2).1),q2,← q1]; exact hy
end
section
variable {P : Program} {o : Oper} {w : World} {H : List Ob} {ρ : Operand → V} {K : V → List Ob → Prop}
theorem X8l {f : Operand} {args : Array Operand} {ts : Array TypeId} (ho : o.op = .call { callee:=.value f,args,argTypes:=ts })
  (hq : callG P (ρ f) (args.toList.map ρ) H K) : ∃ v H',K v H' ∧ ∀ {E : Env} {a : Act} {w : World} {κ : KM} {S : BS} {uss : List (List Nat)},Sees E H ρ a w κ S uss → VOk P E o a w κ S v H':=by
 unfold callG at hq
 split at hq
 ·rename_i g fs cs hf
  obtain ⟨js,args',H0,r,H1,hnd,hok,hag,hgc,hl,hfl,hK⟩:=hq
  refine ⟨_,_,hK,fun {E a w κ S uss} hcn=>?_⟩
  intro Kr Q hKr
  have hfr:=hcn.ev f
  rw [hf] at hfr
  obtain ⟨_,ys,zs,hv,h1,h2⟩:=hfr
  have hargs:=RepL.of_map hcn.ev args.toList
  have hall:=(h1.nils hargs).nils h2
  have hcall:=hcn.toHp.callg hnd hok hag hall hgc hl hfl
  have harr : (ys.toList ++ args.toList.map a.eval ++ zs.toList).toArray = ys ++ args.map a.eval ++ zs:=by
   apply Array.ext'; simp
  rw [harr] at hcall
  have hrun : (execOp a.eval o).run P w = .ok (.enter g (ys ++ args.map a.eval ++ zs)) w:=by
   have:=hgc.1 (ys ++ args.map a.eval ++ zs) w
   simp only [execOp,ho,resolve,Deferred.ofValue,hv,Sem.run_bind,Sem.run_pure,Result.andThen_ok,invoke]
   exact this
  unfold Oper.wp
  rw [hrun]
  refine hcall.mono ?_
  rintro e w' ⟨x,rfl,κ',S',uss',hb,hp',hr⟩
  exact hKr _ _ _ _ _ hb hp' hr
 ·exact hq.elim
def wpG (P : Program) (op : Op) (ρ : Operand → V) (H : List Ob) (K : V → List Ob → Prop) : Prop :=
 match op with
 | .call { callee:=.value f,args,argTypes:=_ }=>callG P (ρ f) (args.toList.map ρ) H K ∨ callI P (ρ f) (args.toList.map ρ) H K ∨ wpV P op ρ H K
 | .buildSlice t len parts=>bslO P t len (parts.toList.map fun p=>(p.1,ρ p.2)) H K
 | .call { callee:=.builtin .append,args,argTypes }=>(∃ x y t,args = #[x,y] ∧ argTypes = #[t,t] ∧ appM P t (ρ x) (ρ y) H K) ∨ ∃ x y t tn,args = #[x,y] ∧ argTypes = #[t,tn] ∧ appZ P t tn (ρ x) (ρ y) H K
 | .call { callee:=.builtin .copy,args,argTypes }=>∃ x y t t2,args = #[x,y] ∧ argTypes = #[t,t2] ∧ cpyC P t (ρ x) (ρ y) H K
 | .call { callee:=.builtin .clear,args,argTypes }=>∃ x t,args = #[x] ∧ argTypes = #[t] ∧ clrC P t (ρ x) H K
 | .makeMap t none=>K (.mp H.length) (H ++ [⟨.mp,t,[]⟩])
 | .mapUpdate t m k x=>mupC P t (ρ m) (ρ k) (ρ x) H K
 | .lookup t m k true=>mlkC P t (ρ m) (ρ k) H K
 | op=>wpV P op ρ H K
theorem Y6l (hq : wpG P o.op ρ H K) : ∃ v H',K v H' ∧ ∀ {E : Env} {a : Act} {w : World} {κ : KM} {S : BS} {uss : List (List Nat)},Sees E H ρ a w κ S uss → VOk P E o a w κ S v H':=by
 unfold wpG at hq
 split at hq
 ·rename_i f args ts ho
  rcases hq with hq | hq | hq
  ·exact X8l ho hq
  ·exact Y3T ho hq
  ·exact X6Y hq
 ·rename_i t len parts ho
  exact Y0c ho hq
 ·rename_i args ts ho
  rcases hq with ⟨x,y,t,rfl,rfl,hq⟩ | ⟨x,y,t,tn,rfl,rfl,hq⟩
  ·exact Y0f ho hq
  ·exact Y6e ho hq
 ·rename_i args ts ho
  obtain ⟨x,y,t,t2,rfl,rfl,hq⟩:=hq
  exact Y8y ho hq
 ·rename_i args ts ho
  obtain ⟨x,t,rfl,rfl,hq⟩:=hq
  exact Y8J ho hq
 ·exact Y7z ‹_› hq
 ·exact Y7x ‹_› hq
 ·exact Y7A ‹_› hq
 ·exact X6Y hq
end
def wpM (P : Program) (ops : Array Oper) (K : St → Prop) : List Oper → St → Prop
 | [],s=>K s
 | o :: rest,s=>gdC ops o.guard s (fun s=>wpG P o.op s.ev s.hp fun v H=>wpM P ops K rest { (s.put o.dst v) with hp:=H }) (fun s=>wpM P ops K rest (s.put o.dst (.tup [])))
section
variable {P : Program} {E : Env}
theorem Y1U {ops : Array Oper} {Q : Exit → Act → World → Prop} {K : St → Prop} (hK : ∀ s a w,K s → CN E s a w → Q .normal a w) : ∀ {l : List Oper} {s : St} {a : Act} {w : World},
  (∀ o ∈ l,∀ t,o.dst = some t → t < E.N) → CN E s a w → wpM P ops K l s → wpList P ops Q l a w
 | [],s,a,w,_,h,hq=>hK s a w hq h
 | o :: rest,s,a,w,hd,h,hq=>by
  unfold wpList
  have hd':=hd o (by simp)
  have hKr : ∀ s a w,wpM P ops K rest s → CN E s a w → wpList P ops Q rest a w:=fun s a w h hc=>Y1U hK (fun o ho=>hd o (by simp [ho])) hc h
  have yes : ∀ {s : St},CN E s a w → (wpG P o.op s.ev s.hp fun v H=>wpM P ops K rest { (s.put o.dst v) with hp:=H }) → o.wp P a w (wpList P ops Q rest) Q:=by
   intro s h hq
   obtain ⟨v,H',hK',hv⟩:=Y6l hq
   obtain ⟨κ,S,uss,hc⟩:=h
   refine hv hc.sees _ Q ?_
   intro x w' κ' S' uss' hb hp hr
   exact hKr _ _ _ hK' (CN.put hc hd' hb hp hr)
  unfold wpM gdC at hq
  split at hq
  ·rename_i hg
   rw [if_pos (by simp [Region.wanted,hg])]
   exact .inl (yes h hq)
  ·rename_i j want hg
   rcases hq with hq | ⟨t,hj,ht,hn⟩
   rotate_left
   ·have hnb : yielded ops a.tmps j = none:=by
     obtain ⟨κ,S,uss,hc⟩:=h
     have hrep : Rep w S E.B κ (s.get t) (a.tmps.getD t undef) []:=hc.ev (.tmp t)
     rw [ht] at hrep
     obtain ⟨xs,hv,_⟩:=hrep
     rw [Array.getD_eq_getD_getElem?] at hv
     unfold yielded
     rw [hj]
     cases e : a.tmps[t]? with
     | none=>simp only [Option.bind_some,e]
     | some x=>rw [e] at hv; simp at hv; simp only [Option.bind_some,e,hv]
    rw [if_neg (by simp [Region.wanted,hg,hnb])]
    refine hKr _ _ _ hn ?_
    obtain ⟨κ,S,uss,hc⟩:=h
    have:=CN.put hc hd' (v:=.tup []) (x:=undef) ⟨fun _ h=>h,fun _ h=>h,fun _ _ h=>h,fun _ _ h=>h,fun _ _ _=>rfl⟩ hc.toHp ⟨#[],rfl,rfl,rfl⟩
    rwa [St.put_eta] at this
   obtain ⟨t,b,hj,ht,h1,h2⟩:=hq
   have hget : a.tmps[t]? = some (.bool b):=by
    obtain ⟨κ,S,uss,hc⟩:=h
    have hrep : Rep w S E.B κ (s.get t) (a.tmps.getD t undef) []:=hc.ev (.tmp t)
    rw [ht] at hrep
    obtain ⟨_,hv,_⟩:=hrep
    rw [Array.getD_eq_getD_getElem?] at hv
    cases e : a.tmps[t]? with
    | none=>rw [e] at hv; simp [undef] at hv
    | some x=>rw [e] at hv; simp at hv; rw [hv]
   have hsay : ∀ c,b = c → CN E (s.put (some t) (.lit (.bool c))) a w:=by
    rintro c rfl
    obtain ⟨κ,S,uss,hc⟩:=h
    refine ⟨κ,S,uss,hc.toHp, ?_,hc.df,hc.sz⟩
    intro t' v hv
    rw [St.lookup_put] at hv
    by_cases e : t' = t
    ·subst e
     rw [if_pos rfl] at hv
     obtain rfl:=Option.some.inj hv
     refine ⟨rfl, ?_,rfl⟩
     rw [Array.getD_eq_getD_getElem?,hget]; rfl
    ·rw [if_neg e] at hv
     exact hc.fr t' v hv
   have hy : yielded ops a.tmps j = some b:=by
    unfold yielded
    rw [hj]; simp [hget]
   by_cases hb : b = want
   ·subst hb
    rw [if_pos (by simp [Region.wanted,hg,hy])]
    exact .inl (yes (hsay b rfl) (h1 rfl))
   ·have hb' : b = !want:=by cases b <;> cases want <;> simp_all
    rw [if_neg (by simp [Region.wanted,hg,hy,hb])]
    refine hKr _ _ _ (h2 hb') ?_
    obtain ⟨κ,S,uss,hc⟩:=hsay _ hb'
    have:=CN.put hc hd' (v:=.tup []) (x:=undef) ⟨fun _ h=>h,fun _ h=>h,fun _ _ h=>h,fun _ _ h=>h,fun _ _ _=>rfl⟩ hc.toHp ⟨#[],rfl,rfl,rfl⟩
    rwa [St.put_eta] at this
end
inductive AE where
 | normal
 | exit (id : Nat)
 | ret
def AE.of : AE → Exit
 | .normal=>.normal
 | .exit id=>.exit id
 | .ret=>.ret
structure Ann where
 keep : List Nat
 frz : List (Nat × List Nat):=[]
 ord : List (Nat × (List Nat × List Nat × List Nat)):=[]
 ent : List Nat:=[]
 mu : List Nat:=[]
 n0 : Nat:=0
def eln : List Nat → Nat → Bool
 | [],_=>false
 | j :: js,i=>if i = j then true else eln js i
def entC (n0 : Nat) (b : Bool) (s : St) (K : St → Prop) : Prop:=match b with
 | true=>∃ s',StI n0 s s' ∧ K s'
 | false=>K s
def regM (P : Program) (b : Bool) (ops : Array Oper) (sl : Sl) (K : St → Prop) (l : List Oper) (s : St) : Prop:=match b with
 | true=>wpM P ops K ops.toList s
 | false=>wpL P ops sl K l s
def frzC (H : List Ob) (K : List Ob → Prop) : List Nat → Prop
 | []=>K H
 | id :: ids=>∃ ob,H[id]? = some ob ∧ ob.st = .own ∧ (∀ c ∈ ob.cs,c.cl) ∧ frzC (H.set id { ob with st:=.frz }) K ids
def V.bel (n : Nat) : V → Prop
 | .ref id _ | .rsl id _ _ _ | .mp id=>id < n
 | .fn _ _ _=>False
 | .agg _ | .tup _=>False
 | _=>True
mutual
inductive Vk (n : Nat) : V → V → Prop
 | any (v : V) : Vk n v .any
 | same (v : V) : v.bel n → Vk n v v
 | esl (f : Fl) (sz : Nat) : Vk n .emp (.sl f sz 0 [])
 | sb (sz k : Nat) (cs : List V) : Vk n (.sl .s sz k cs) (.sl .b sz k cs)
 | agg (vs vs' : List V) : VkL n vs vs' → Vk n (.agg vs) (.agg vs')
 | tup (vs vs' : List V) : VkL n vs vs' → Vk n (.tup vs) (.tup vs')
 | fn (f : Fn) (fs fs' cs cs' : List V) : VkL n fs fs' → VkL n cs cs' → Vk n (.fn f fs cs) (.fn f fs' cs')
inductive VkL (n : Nat) : List V → List V → Prop
 | nil : VkL n [] []
 | cons (v v' : V) (vs vs' : List V) : Vk n v v' → VkL n vs vs' → VkL n (v :: vs) (v' :: vs')
end
structure StLe (n0 : Nat) (s s' : St) : Prop where
 nn : n0 ≤ s'.hp.length
 len : s'.hp.length ≤ s.hp.length
 tm : ∀ p ∈ s'.tm,Vk s'.hp.length (s.get p.1) p.2
 hp : ∀ (i : Nat) (ob' : Ob),s'.hp[i]? = some ob' → ob'.st = .dead ∨ ∃ ob,s.hp[i]? = some ob ∧ ob.st = ob'.st ∧ ob.ty = ob'.ty ∧ VkL s'.hp.length ob.cs ob'.cs
def AE.next (K : St → Prop) (Q : AE → St → Prop) : AE → St → Prop
 | .normal,s=>K s
 | e,s=>Q e s
def AE.inBlock (id : Nat) (Q : AE → St → Prop) : AE → St → Prop
 | .exit j,s=>if j = id then Q .normal s else Q (.exit j) s
 | e,s=>Q e s
def ordL (an : Ann) (id : Nat) (draw : Bool) (ops : Array Oper) : List Oper :=
 match draw,an.ord.lookup id with
 | true,some p=>p.1.filterMap (ops[·]?)
 | _,_=>ops.toList
def dsL (an : Ann) (id : Nat) (draw : Bool) : List Nat :=
 match draw,an.ord.lookup id with
 | true,some p=>p.2.1
 | _,_=>[]
def ltL (an : Ann) (id : Nat) (draw : Bool) : List Nat :=
 match draw,an.ord.lookup id with
 | true,some p=>p.2.2
 | _,_=>[]
def slL : List Nat → Nat → List (Nat × Nat)
 | [],_=>[]
 | d :: ds,n=>(d,n) :: slL ds (n + 1)
def resL (ds : List Nat) : List Ob:=ds.map fun _=>⟨.res,0,[]⟩
def awp (P : Program) (an : Ann) : Code → (AE → St → Prop) → St → Prop
 | .skip,Q,s=>Q .normal s
 | .region id ops draw,Q,s=>entC an.n0 (eln an.ent id) s fun s=>frzC s.hp (fun H=>regM P (!draw && eln an.mu id) ops ⟨slL (dsL an id draw) H.length,ltL an id draw,mcl (ltL an id draw)⟩ (fun s'=>Q .normal (s'.prune an.keep)) (ordL an id draw ops) { s with hp:=H ++ resL (dsL an id draw) }) ((an.frz.lookup id).getD [])
 | .seq x y,Q,s=>awp P an x (AE.next (awp P an y Q) Q) s
 | .cond c x y,Q,s=>∃ b,s.ev c = .lit (.bool b) ∧ (b = true → awp P an x Q s) ∧ (b = false → awp P an y Q s)
 | .block id c,Q,s=>awp P an c (AE.inBlock id Q) s
 | .loop c,Q,s=>∃ (α : Type) (F : α → St) (μ : α → Nat) (x0 : α),StI an.n0 s (F x0) ∧
   ∀ x,awp P an c (AE.next (fun s'=>∃ y,μ y < μ x ∧ StI an.n0 s' (F y)) Q) (F x)
 | .exit id,Q,s=>Q (.exit id) s
 | .ret,Q,s=>Q .ret s
 | _,_,_=>False
def drwOk (ord : List (Nat × (List Nat × List Nat × List Nat))) : Code → Bool
 | .region id ops draw=>!draw || drwB ops (((ord.lookup id).map (·.1)).getD (List.range ops.size)) (((ord.lookup id).map (·.2.1)).getD []) (((ord.lookup id).map (·.2.2)).getD [])
 | .seq x y=>drwOk ord x && drwOk ord y
 | .cond _ x y=>drwOk ord x && drwOk ord y
 | .block _ c=>drwOk ord c
 | .loop c=>drwOk ord c
 | _=>true
def dstOk (N : Nat) : Code → Bool
 | .region _ ops _=>ops.all fun o=>match o.dst with | some d=>decide (d < N) | none=>true
 | .seq x y=>dstOk N x && dstOk N y
 | .cond _ x y=>dstOk N x && dstOk N y
 | .block _ c=>dstOk N c
 | .loop c=>dstOk N c
 | _=>true
section
variable {P : Program} {E : Env}
theorem CN.prune {s : St} {a : Act} {w : World} (h : CN E s a w) (keep : List Nat) : CN E (s.prune keep) a w:=by
 obtain ⟨κ,S,uss,hc⟩:=h
 refine ⟨κ,S,uss,hc.toHp, ?_,hc.df,hc.sz⟩
 intro t v ht
 have key : ∀ keep : List Nat,(keep.filterMap fun t=>(s.tm.lookup t).map fun v=>(t,v)).lookup t = some v → s.tm.lookup t = some v:=by
  intro keep
  induction keep with
  | nil=>intro h; simp at h
  | cons k keep ih =>
   intro h
   rw [List.filterMap_cons] at h
   cases hk : s.tm.lookup k with
   | none=>rw [hk] at h; exact ih (by simpa using h)
   | some u =>
    rw [hk] at h
    simp only [Option.map_some,List.lookup_cons] at h
    by_cases e : t = k
    ·subst e; simp at h; rw [hk,h]
    ·have : (t == k) = false:=by simpa using e
     rw [this] at h; exact ih h
 exact hc.fr t v (key keep ht)
mutual
theorem Vk.sound {n : Nat} {w : World} {S B : BS} {κ κ' : KM} (hk : ∀ id x,id < n → kat κ id = some x → kat κ' id = some x) : ∀ {v v' : V},Vk n v v' → ∀ {x : Value} {us : List Nat},Rep w S B κ v x us → ∃ u,List.Sublist u us ∧ Rep w S B κ' v' x u
 | _,_,.any _,x,us,_=>⟨[],List.nil_sublist _,rfl⟩
 | v,_,.same _ hb,x,us,h=>by
  refine ⟨us,List.Sublist.refl _, ?_⟩
  cases v with
  | any=>exact h
  | lit v=>exact h
  | emp=>exact h
  | ptr f cs=>exact h
  | sl f sz k cs=>exact h
  | agg vs=>exact hb.elim
  | tup vs=>exact hb.elim
  | fn f fs cs=>exact hb.elim
  | ref id off=>obtain ⟨h0,b,h1,h2⟩:=h; exact ⟨h0,b,hk _ _ hb h1,h2⟩
  | mp id=>obtain ⟨h0,b,h1,h2⟩:=h; exact ⟨h0,b,hk _ _ hb h1,h2⟩
  | rsl id sz o m =>
   obtain ⟨h0,h1⟩:=h
   refine ⟨h0,h1.imp (fun ⟨a,b⟩=>⟨hk _ _ hb a,b⟩) ?_⟩
   rintro ⟨b,c,a,r⟩
   exact ⟨b,c,hk _ _ hb a,r⟩
 | _,_,.esl f sz,x,us,⟨h0,a,h⟩=>by
  subst h0; subst h
  exact ⟨[],List.Sublist.refl _,a,0,rfl,Nat.le_refl _,Nat.zero_le _,by simp,.inl ⟨rfl,rfl,fun _=>rfl⟩⟩
 | _,_,.sb sz k cs,x,us,⟨a,c,h1,h2,h3,h4,h5⟩=>by
  refine ⟨us,List.Sublist.refl _,a,c,h1,h2,h3,h4,h5.imp (fun h=>⟨h.1,h.2.1,fun h=>by cases h⟩) ?_⟩
  rintro ⟨b,o,u,e,h6,h7⟩
  refine ⟨b,o,u,e,Mem.ext [] [] ⟨fun _ h=>h,fun _ h=>h.elim,fun _ _ h=>h,fun _ _ h=>h,fun _ _ _=>rfl⟩ _ _ _ _ (fun _=>rfl) (fun _ _ _=>rfl) h6,.inl h7.1,h7.2⟩
 | _,_,.agg vs vs' hl,x,us,⟨xs,h1,h2⟩=>by
  obtain ⟨u,h3,h4⟩:=VkL.rep hk hl h2
  exact ⟨u,h3,xs,h1,h4⟩
 | _,_,.tup vs vs' hl,x,us,⟨xs,h1,h2⟩=>by
  obtain ⟨u,h3,h4⟩:=VkL.rep hk hl h2
  exact ⟨u,h3,xs,h1,h4⟩
 | _,_,.fn f fs fs' cs cs' h1 h2,x,us,⟨h0,ys,zs,h3,h4,h5⟩=>by
  obtain ⟨u,e1,e2⟩:=VkL.rep hk h1 h4
  obtain ⟨u',e3,e4⟩:=VkL.rep hk h2 h5
  obtain rfl:=List.sublist_nil.1 e1
  obtain rfl:=List.sublist_nil.1 e3
  exact ⟨[],List.nil_sublist _,rfl,ys,zs,h3,e2,e4⟩
theorem VkL.rep {n : Nat} {w : World} {S B : BS} {κ κ' : KM} (hk : ∀ id x,id < n → kat κ id = some x → kat κ' id = some x) : ∀ {vs vs' : List V},VkL n vs vs' → ∀ {xs : List Value} {us : List Nat},RepL w S B κ vs xs us → ∃ u,List.Sublist u us ∧ RepL w S B κ' vs' xs u
 | _,_,.nil,xs,us,h=>⟨us,List.Sublist.refl _,h⟩
 | _,_,.cons v v' vs vs' h1 h2,xs,us,⟨x,xs',u1,u2,h3,h4,h5,h6⟩=>by
  obtain ⟨u,e1,e2⟩:=Vk.sound hk h1 h5
  obtain ⟨u',e3,e4⟩:=VkL.rep hk h2 h6
  exact ⟨u ++ u',by rw [h4]; exact e1.append e3,x,xs',u,u',h3,rfl,e2,e4⟩
end
theorem VkL.mem {n : Nat} {w : World} {S B : BS} {κ κ' : KM} (hk : ∀ id x,id < n → kat κ id = some x → kat κ' id = some x) : ∀ {cs cs' : List V},VkL n cs cs' → ∀ {b o : Nat} {us : List Nat},Mem w S B κ cs b o us → ∃ u,List.Sublist u us ∧ Mem w S B κ' cs' b o u
 | _,_,.nil,b,o,us,h=>⟨us,List.Sublist.refl _,h⟩
 | _,_,.cons v v' vs vs' h1 h2,b,o,us,⟨x,u1,u2,h3,h4,h5,h6⟩=>by
  obtain ⟨u,e1,e2⟩:=Vk.sound hk h1 h5
  obtain ⟨u',e3,e4⟩:=VkL.mem hk h2 h6
  exact ⟨u ++ u',by rw [h4]; exact e1.append e3,x,u,u',h3,rfl,e2,e4⟩
theorem VkL.nil_of {n : Nat} {cs' : List V} (h : VkL n [] cs') : cs' = []:=by cases h; rfl
theorem Y6y : ∀ {n : Nat} {f : Nat → List Nat} {uss : List (List Nat)},n ≤ uss.length → (∀ i us,uss[i]? = some us → i < n → List.Sublist (f i) us) → List.Sublist ((List.range n).map f).flatten uss.flatten
 | 0,f,uss,_,_=>by simp
 | n + 1,f,[],h,_=>by simp at h
 | n + 1,f,us :: uss,h,hs=>by
  rw [List.range_succ_eq_map,List.map_cons,List.flatten_cons,List.flatten_cons,List.map_map]
  refine (hs 0 us rfl (by omega)).append (Y6y (by simpa using h) ?_)
  intro i us' hi hlt
  exact hs (i + 1) us' (by simpa using hi) (by omega)
theorem CN.le {n0 : Nat} {s s' : St} {a : Act} {w : World} (hn0 : E.K0.length ≤ n0) (h : CN E s a w) (hl : StLe n0 s s') : CN E s' a w:=by
 obtain ⟨κ,S,uss,hc⟩:=h
 have hk : ∀ id x,id < s'.hp.length → kat κ id = some x → kat (κ.take s'.hp.length) id = some x:=by
  intro id x hid hx
  unfold kat at *
  rw [List.getElem?_take,if_pos hid]; exact hx
 have hlk : (κ.take s'.hp.length).length = s'.hp.length:=by rw [List.length_take,hc.kl]; have:=hl.len; omega
 have hkb : ∀ id x,kat (κ.take s'.hp.length) id = some x → kat κ id = some x:=by
  intro id x hx
  have hlt:=Y4V hx
  rw [hlk] at hlt
  unfold kat at *
  rw [List.getElem?_take,if_pos hlt] at hx; exact hx
 -- each object's blocks
 have hob : ∀ i,∃ u : List Nat,∀ us,uss[i]? = some us → List.Sublist u us ∧ ∀ ob' k,s'.hp[i]? = some ob' → kat (κ.take s'.hp.length) i = some k → ObR w S E.B (κ.take s'.hp.length) ob' k u:=by
  intro i
  cases hi : s'.hp[i]? with
  | none=>exact ⟨[],fun us _=>⟨List.nil_sublist _,fun ob' k h _=>by cases h⟩⟩
  | some ob' =>
   rcases hl.hp i ob' hi with hd | ⟨ob,h1,h2,h3,h4⟩
   ·refine ⟨[],fun us _=>⟨List.nil_sublist _,fun ob'' k h _=>?_⟩⟩
    obtain rfl : ob' = ob'':=by simpa using h
    obtain ⟨st,ty,cs⟩:=ob'
    obtain rfl : st = .dead:=hd
    exact rfl
   ·cases hk' : kat (κ.take s'.hp.length) i with
    | none=>exact ⟨[],fun us _=>⟨List.nil_sublist _,fun ob'' k _ h=>by cases h⟩⟩
    | some k0 =>
     cases hu : uss[i]? with
     | none=>exact ⟨[],fun us h=>by cases h⟩
     | some us0 =>
      have hr:=hc.ob i ob k0 us0 h1 (hkb _ _ hk') hu
      obtain ⟨st,ty,cs⟩:=ob
      obtain ⟨st',ty',cs'⟩:=ob'
      obtain rfl : st = st':=h2
      obtain rfl : ty = ty':=h3
      cases st with
      | dead=>exact ⟨[],fun us h=>⟨List.nil_sublist _,fun ob'' k h' _=>by obtain rfl:=Option.some.inj h'; exact rfl⟩⟩
      | res=>exact (show False from hr).elim
      | mp =>
       obtain ⟨b,es,ck,q1,q2,q3,q4⟩:=hr
       obtain ⟨u,e1,e2⟩:=VkL.rep hk h4 q4
       obtain rfl:=List.sublist_nil.1 e1
       refine ⟨[b],fun us h=>⟨?_,fun ob'' k h' h''=>?_⟩⟩
       ·obtain rfl:=Option.some.inj h
        rw [q2]; exact List.Sublist.refl _
       ·obtain rfl:=Option.some.inj h'
        obtain rfl:=Option.some.inj h''
        exact ⟨b,es,ck,q1,rfl,q3,e2⟩
      | frz =>
       refine ⟨[],fun us h=>⟨List.nil_sublist _,fun ob'' k h' h''=>?_⟩⟩
       obtain rfl:=Option.some.inj h'
       obtain rfl:=Option.some.inj h''
       refine ⟨rfl, ?_⟩
       rcases hr.2 with ⟨q1,q2⟩ | ⟨b,arr,q1,q2,q3,q4⟩
       ·rw [show cs = [] from q2] at h4; exact .inl ⟨q1,h4.nil_of⟩
       ·refine .inr ?_
        obtain ⟨u,e1,e2⟩:=VkL.mem hk h4 q4
        obtain rfl:=List.sublist_nil.1 e1
        exact ⟨b,arr,q1,q2,q3,e2⟩
      | own =>
       rcases hr with ⟨q1,q2,q3⟩ | ⟨b,arr,u,q1,q2,q3,q4⟩
       ·refine ⟨[],fun us h=>⟨List.nil_sublist _,fun ob'' k h' h''=>?_⟩⟩
        obtain rfl:=Option.some.inj h'
        obtain rfl:=Option.some.inj h''
        rw [show cs = [] from q2] at h4
        exact .inl ⟨q1,h4.nil_of,rfl⟩
       ·obtain ⟨u',e1,e2⟩:=VkL.mem hk h4 q4
        refine ⟨b :: u',fun us h=>⟨?_,fun ob'' k h' h''=>?_⟩⟩
        ·obtain rfl:=Option.some.inj h
         rw [q2]; exact e1.cons_cons b
        ·obtain rfl:=Option.some.inj h'
         obtain rfl:=Option.some.inj h''
         exact .inr ⟨b,arr,u',q1,rfl,q3,e2⟩
 obtain ⟨f,hf⟩:=Classical.axiomOfChoice hob
 have hsub : List.Sublist ((List.range s'.hp.length).map f).flatten uss.flatten :=
  Y6y (by rw [hc.ul]; exact hl.len) fun i us hi _=>(hf i us hi).1
 refine ⟨κ.take s'.hp.length,S,(List.range s'.hp.length).map f,⟨hlk, ?_,by simp, ?_,hsub.nodup hc.nd,fun b hb=>hc.ow b (hsub.subset hb),hc.sb,hc.s0,hc.s1,hc.bb,hc.kp,fun id x hx=>hk id x (by have:=Y4V hx; have:=hl.nn; omega) (hc.kk id x hx)⟩, ?_,hc.df,hc.sz⟩
 ·intro i ob' hi hst
  have hlt:=(List.getElem?_eq_some_iff.1 hi).1
  rcases hl.hp i ob' hi with hd | ⟨ob,h1,h2,_⟩
  ·rw [hd] at hst; rcases hst with h | h <;> cases h
  ·obtain ⟨k,hk'⟩:=hc.al i ob h1 (by rw [h2]; exact hst)
   exact ⟨k,hk i k hlt hk'⟩
 ·intro i ob' k us hi hk' hu
  have hlt:=(List.getElem?_eq_some_iff.1 hi).1
  have hu' : us = f i:=by simpa [hlt] using hu.symm
  have hus : uss[i]? = some uss[i]!:=by
   rw [List.getElem!_eq_getElem?_getD,List.getElem?_eq_getElem (by rw [hc.ul]; have:=hl.len; omega)]; rfl
  rw [hu']
  exact (hf i _ hus).2 ob' k hi hk'
 ·intro t v ht
  have hmem : (t,v) ∈ s'.tm:=by
   have key : ∀ l : List (Nat × V),l.lookup t = some v → (t,v) ∈ l:=by
    intro l
    induction l with
    | nil=>intro h; simp at h
    | cons p l ih =>
     intro h
     obtain ⟨k,u⟩:=p
     rw [List.lookup_cons] at h
     by_cases e : t = k
     ·subst e; simp at h; simp [h]
     ·have : (t == k) = false:=by simpa using e
      rw [this] at h; exact List.mem_cons_of_mem _ (ih h)
   exact key _ ht
  obtain ⟨u,e1,e2⟩:=Vk.sound hk (hl.tm _ hmem) (hc.ev (.tmp t))
  obtain rfl:=List.sublist_nil.1 e1
  exact e2
theorem StLe.sti {n0 : Nat} {s s' : St} (h : StLe n0 s s') : StI n0 s s':=fun _ _ _ hn hc=>hc.le hn h
theorem CN.frz1 {s : St} {a : Act} {w : World} (h : CN E s a w) {id : Nat} {ob : Ob} (hi : s.hp[id]? = some ob) (hst : ob.st = .own) (hcl : ∀ c ∈ ob.cs,c.cl) : CN E { s with hp:=s.hp.set id { ob with st:=.frz } } a w:=by
 obtain ⟨κ,S,uss,hc⟩:=h
 have hlt:=(List.getElem?_eq_some_iff.1 hi).1
 rcases hc.toHp.own hi hst with ⟨h1,h2,h3⟩ | ⟨b,arr,u,h1,h2,h3,h4⟩
 ·-- of no block
  refine ⟨κ,S,uss,{ kl:=by simp [hc.kl],al:=?_,ul:=by simp [hc.ul],ob:=?_,nd:=hc.nd,ow:=hc.ow,sb:=hc.sb,s0:=hc.s0,s1:=hc.s1,bb:=hc.bb,kp:=hc.kp,kk:=hc.kk,fr:=hc.fr,df:=hc.df,sz:=hc.sz }⟩
  ·intro i ob' a st
   simp only [List.getElem?_set] at a
   by_cases e : id = i
   ·subst e; exact ⟨_,h1⟩
   ·rw [if_neg e] at a; exact hc.al i ob' a st
  ·intro i ob' k us a b c
   simp only [List.getElem?_set] at a
   by_cases e : id = i
   ·subst e
    rw [if_pos rfl,if_pos hlt] at a
    obtain rfl:=Option.some.inj a
    rw [h1] at b; rw [h3] at c
    obtain rfl:=Option.some.inj b
    obtain rfl:=Option.some.inj c
    exact ⟨rfl,.inl ⟨rfl,h2⟩⟩
   ·rw [if_neg e] at a; exact hc.ob i ob' k us a b c
 ·obtain rfl:=Mem.cl_us hcl h4
  have hbm : b ∈ uss.flatten:=List.mem_flatten.2 ⟨_,List.mem_of_getElem? h2,by simp⟩
  obtain ⟨g1,g2,g3,g4⟩:=hc.ow b hbm
  have hS : ∀ x,S x → S x ∨ x = b:=fun _ h=>.inl h
  have hext : Ext w w S (fun x=>S x ∨ x = b) E.B E.B κ κ:=⟨hS,fun _ h=>h,fun _ _ h=>h,fun _ _ h=>h,fun _ _ _=>rfl⟩
  have hsub:=Q0Z h2 (List.nil_sublist _)
  have hnot : b ∉ (uss.set id []).flatten:=by
   intro hm
   obtain ⟨l,hl,hbl⟩:=List.mem_flatten.1 hm
   obtain ⟨j,hj⟩:=List.getElem?_of_mem hl
   rw [List.getElem?_set] at hj
   by_cases e : id = j
   ·subst e
    rw [if_pos rfl] at hj
    split at hj
    ·obtain rfl:=Option.some.inj hj; simp at hbl
    ·cases hj
   ·rw [if_neg e] at hj
    exact Q0j hc.nd h2 hj e b (by simp) hbl
  ·refine ⟨κ,fun x=>S x ∨ x = b,uss.set id [],{ kl:=by simp [hc.kl],al:=?_,ul:=by simp [hc.ul],ob:=?_,nd:=hsub.nodup hc.nd,ow:=?_,sb:=?_,s0:=fun x h=>.inl (hc.s0 x h),s1:=?_,bb:=hc.bb,kp:=hc.kp,kk:=hc.kk,fr:=?_,df:=hc.df,sz:=hc.sz }⟩
   ·intro i ob' a st
    simp only [List.getElem?_set] at a
    by_cases e : id = i
    ·subst e; exact ⟨_,h1⟩
    ·rw [if_neg e] at a; exact hc.al i ob' a st
   ·intro i ob' k us a b' c
    simp only [List.getElem?_set] at a c
    by_cases e : id = i
    ·subst e
     rw [if_pos rfl,if_pos hlt] at a
     rw [if_pos rfl,if_pos (by rw [hc.ul]; exact hlt)] at c
     obtain rfl:=Option.some.inj a
     rw [h1] at b'
     obtain rfl:=Option.some.inj b'
     obtain rfl:=Option.some.inj c
     exact ⟨rfl,.inr ⟨b,arr,rfl,.inr rfl,h3,Mem.ext κ κ hext _ _ _ _ (fun _=>rfl) (fun _ _ _=>rfl) h4⟩⟩
    ·rw [if_neg e] at a c
     exact (hc.ob i ob' k us a b' c).ext hext (fun _ _=>rfl)
   ·intro x hx
    obtain ⟨q1,q2,q3,q4⟩:=hc.ow x (hsub.subset hx)
    refine ⟨?_,q2,q3,q4⟩
    rintro (h | rfl)
    ·exact q1 h
    ·exact hnot hx
   ·rintro x (h | rfl)
    ·exact hc.sb x h
    ·exact g3
   ·rintro x (h | rfl)
    ·exact hc.s1 x h
    ·exact .inr g4
   ·intro t v ht
    exact Rep.ext κ κ hext v _ [] (by simp) (hc.fr t v ht)
theorem CN.frz {K : List Ob → Prop} : ∀ {ids : List Nat} {s : St} {a : Act} {w : World},CN E s a w → frzC s.hp K ids → ∃ H,K H ∧ CN E { s with hp:=H } a w
 | [],s,a,w,h,hq=>⟨s.hp,hq,h⟩
 | id :: ids,s,a,w,h,⟨ob,h1,h2,h3,h4⟩=>by
  obtain ⟨H,e1,e2⟩:=CN.frz (s:={ s with hp:=s.hp.set id { ob with st:=.frz } }) (h.frz1 h1 h2 h3) h4
  exact ⟨H,e1,e2⟩
def lift (E : Env) (Q : AE → St → Prop) (e : Exit) (a : Act) (w : World) : Prop:=∃ e' s,e = e'.of ∧ Q e' s ∧ CN E s a w
theorem Y6H : ∀ (ds : List Nat) (n : Nat),∀ d ∈ ds,∃ id,(slL ds n).lookup d = some id
 | [],_,d,h=>by simp at h
 | e :: ds,n,d,h=>by
  unfold slL
  rw [List.lookup_cons]
  by_cases he : d = e
  ·subst he; exact ⟨n,by simp⟩
  ·have : (d == e) = false:=by simpa using he
   rw [this]
   simp only [List.mem_cons,he,false_or] at h
   exact Y6H ds (n + 1) d h
theorem CN.keep : ∀ (ds : List Nat) {s : St} {a : Act} {w : World},CN E s a w → CN E { s with hp:=s.hp ++ resL ds } a w
 | [],s,a,w,h=>by
  show CN E { s with hp:=s.hp ++ [] } a w
  rw [List.append_nil]; exact h
 | d :: ds,s,a,w,⟨κ,S,uss,hc⟩=>by
  have h1 : CN E { s with hp:=s.hp ++ [⟨.res,0,[]⟩] } a w :=
   ⟨κ ++ [none],S,uss ++ [[]],hc.toHp.keepOne,fun t v ht=>Rep.ext (w:=w) (w':=w) κ (κ ++ [none]) ⟨fun _ h=>h,fun _ h=>h,Q1R _,fun _ _ h=>h,fun _ _ _=>rfl⟩ v _ [] (by simp) (hc.fr t v ht),hc.df,hc.sz⟩
  have:=CN.keep ds h1
  show CN E { s with hp:=s.hp ++ (⟨.res,0,[]⟩ :: resL ds) } a w
  rw [List.append_cons]
  exact this
theorem Y2j : ∀ l : List Oper,(List.range l.length).filterMap (l[·]?) = l
 | []=>rfl
 | o :: l=>by
  rw [List.length_cons,List.range_succ_eq_map,List.filterMap_cons]
  simp only [List.getElem?_cons_zero,List.filterMap_map]
  refine congrArg _ (Eq.trans (congrArg (fun f=>List.filterMap f _) (funext fun i=>?_)) (Y2j l))
  simp
theorem X7u (ops : Array Oper) : (List.range ops.size).filterMap (ops[·]?) = ops.toList:=by
 obtain ⟨l⟩:=ops
 simpa using Y2j l
theorem Q1N {an : Ann} (hm : P.follows .mixedOrders = true) (hn0 : E.K0.length ≤ an.n0) : ∀ {c : Code} {Q : AE → St → Prop} {s : St} {a : Act} {w : World},dstOk E.N c = true → drwOk an.ord c = true → CN E s a w → awp P an c Q s → c.wp P (lift E Q) a w
 | .skip,Q,s,a,w,_,_,h,hq=>wp_skip ⟨.normal,s,rfl,hq,h⟩
 | .region id ops draw,Q,s0,a,w,hd,hw,h0,hq=>by
  obtain ⟨s,h,hq⟩ : ∃ s,CN E s a w ∧ frzC s.hp (fun H=>regM P (!draw && eln an.mu id) ops ⟨slL (dsL an id draw) H.length,ltL an id draw,mcl (ltL an id draw)⟩ (fun s'=>Q .normal (s'.prune an.keep)) (ordL an id draw ops) { s with hp:=H ++ resL (dsL an id draw) }) ((an.frz.lookup id).getD []):=by
   change entC an.n0 (eln an.ent id) s0 _ at hq
   unfold entC at hq
   split at hq
   ·obtain ⟨s',h1,h2⟩:=hq
    exact ⟨s',h1 _ _ _ hn0 h0,h2⟩
   ·exact ⟨s0,h0,hq⟩
  obtain ⟨H,hq',h⟩:=h.frz hq
  have hd' : ∀ o ∈ ops,∀ t,o.dst = some t → t < E.N:=by
   intro o ho t ht
   unfold dstOk at hd
   have:=(Array.all_eq_true_iff_forall_mem.1 hd) o ho
   rw [ht] at this
   simpa using this
  have hK : ∀ s' a' w',Q .normal (s'.prune an.keep) → CN E s' a' w' → lift E Q .normal a' w':=fun s' a' w' hK hc=>⟨.normal,_,rfl,hK,hc.prune _⟩
  cases draw with
  | false =>
   cases hmu : eln an.mu id with
   | true =>
    rw [hmu] at hq'
    have hq'' : wpM P ops (fun s'=>Q .normal (s'.prune an.keep)) ops.toList { s with hp:=H ++ [] }:=hq'
    rw [List.append_nil] at hq''
    exact wp_region_list (Y1U (K:=fun s'=>Q .normal (s'.prune an.keep)) hK (fun o ho=>hd' o (by simpa using ho)) h hq'')
   | false =>
   rw [hmu] at hq'
   have hq'' : wpL P ops ⟨[],[],false⟩ (fun s'=>Q .normal (s'.prune an.keep)) ops.toList { s with hp:=H ++ [] }:=hq'
   rw [List.append_nil] at hq''
   exact wp_region_list (Y1V (K:=fun s'=>Q .normal (s'.prune an.keep)) hK (fun o ho=>hd' o (by simpa using ho)) h hq'')
  | true =>
   unfold drwOk at hw
   simp only [Bool.not_true,Bool.false_or] at hw
   have hR : Rsp fun s'=>Q .normal (s'.prune an.keep):=by
    intro s1 s2 he hq
    have : s1.prune an.keep = s2.prune an.keep:=by
     unfold St.prune
     simp only [he.1,he.2]
    rw [← this]; exact hq
   have hc:=h.keep (dsL an id true)
   refine Y5Y hm (K:=fun s'=>Q .normal (s'.prune an.keep)) hK hR (lt:=ltL an id true) (sl:=⟨slL (dsL an id true) H.length,ltL an id true,mcl (ltL an id true)⟩) rfl rfl (Y6H (dsL an id true) H.length) (l:=((an.ord.lookup id).map (·.1)).getD (List.range ops.size)) ?_ hd' hc ?_
   ·unfold dsL ltL
    cases hl : an.ord.lookup id with
    | none=>rw [hl] at hw; exact hw
    | some p=>rw [hl] at hw; exact hw
   ·unfold ordL at hq'
    cases hl : an.ord.lookup id with
    | none =>
     rw [hl] at hq'
     simp only [Option.map_none,Option.getD_none]
     have:=X7u ops
     rw [this]; exact hq'
    | some p=>rw [hl] at hq'; exact hq'
 | .seq x y,Q,s,a,w,hd,hw,h,hq=>by
  simp only [dstOk,drwOk,Bool.and_eq_true] at hd hw
  refine wp_seq (wp_mono (Q1N hm hn0 hd.1 hw.1 h hq) ?_)
  rintro e a' w' ⟨e',s',rfl,hq',hc⟩
  cases e' with
  | normal=>exact Q1N hm hn0 hd.2 hw.2 hc hq'
  | exit id=>exact ⟨.exit id,s',rfl,hq',hc⟩
  | ret=>exact ⟨.ret,s',rfl,hq',hc⟩
 | .cond c x y,Q,s,a,w,hd,hw,h,hq=>by
  simp only [dstOk,drwOk,Bool.and_eq_true] at hd hw
  obtain ⟨b,hb,h1,h2⟩:=hq
  have hv : a.eval c = .bool b:=by
   obtain ⟨κ,S,uss,hc⟩:=h
   have:=hc.ev c
   rw [hb] at this
   exact this.2.1
  refine wp_cond hv ?_
  cases b
  ·exact Q1N hm hn0 hd.2 hw.2 h (h2 rfl)
  ·exact Q1N hm hn0 hd.1 hw.1 h (h1 rfl)
 | .block id c,Q,s,a,w,hd,hw,h,hq=>by
  refine wp_block (wp_mono (Q1N hm hn0 (c:=c) hd hw h hq) ?_)
  rintro e a' w' ⟨e',s',rfl,hq',hc⟩
  cases e' with
  | normal=>exact ⟨.normal,s',rfl,hq',hc⟩
  | exit j =>
   simp only [AE.inBlock] at hq'
   simp only [AE.of,Exit.inBlock]
   by_cases e : j = id
   ·rw [if_pos e] at hq' ⊢; exact ⟨.normal,s',rfl,hq',hc⟩
   ·rw [if_neg e] at hq' ⊢; exact ⟨.exit j,s',rfl,hq',hc⟩
  | ret=>exact ⟨.ret,s',rfl,hq',hc⟩
 | .loop c,Q,s,a,w,hd,hw,h,hq=>by
  obtain ⟨α,F,μ,x0,hle,hround⟩:=hq
  -- the measure of a frame: the least of those that stand for it
  let I : Act → World → Prop:=fun a w=>∃ x,CN E (F x) a w
  have hμ : ∀ a w,I a w → ∃ n,(∃ x,CN E (F x) a w ∧ μ x = n) ∧ ∀ x,CN E (F x) a w → n ≤ μ x:=by
   rintro a w ⟨x,hx⟩
   have key : ∀ n,(∃ x,CN E (F x) a w ∧ μ x ≤ n) → ∃ n,(∃ x,CN E (F x) a w ∧ μ x = n) ∧ ∀ x,CN E (F x) a w → n ≤ μ x:=by
    intro n
    induction n with
    | zero=>rintro ⟨x,h1,h2⟩; exact ⟨0,⟨x,h1,by omega⟩,fun _ _=>Nat.zero_le _⟩
    | succ n ih =>
     intro hx
     by_cases hlow : ∃ x,CN E (F x) a w ∧ μ x ≤ n
     ·exact ih hlow
     ·obtain ⟨x,h1,h2⟩:=hx
      have h3 : μ x = n + 1:=by
       have : ¬ μ x ≤ n:=fun h=>hlow ⟨x,h1,h⟩
       omega
      refine ⟨n + 1,⟨x,h1,h3⟩,fun y hy=>?_⟩
      have : ¬ μ y ≤ n:=fun h=>hlow ⟨y,hy,h⟩
      omega
   exact key (μ x) ⟨x,hx,Nat.le_refl _⟩
  refine wp_loop I (fun a w=>@dite Nat (I a w) (Classical.propDecidable _) (fun h=>Classical.choose (hμ a w h)) (fun _=>0)) ⟨x0,hle _ _ _ hn0 h⟩ ?_
  intro a w hI
  obtain ⟨⟨x,hx,hxm⟩,hmin⟩:=Classical.choose_spec (hμ a w hI)
  refine wp_mono (Q1N hm hn0 (c:=c) hd hw hx (hround x)) ?_
  rintro e a' w' ⟨e',s',rfl,hq',hc⟩
  cases e' with
  | normal =>
   obtain ⟨y,hy,hle'⟩:=hq'
   have hI' : I a' w':=⟨y,hle' _ _ _ hn0 hc⟩
   refine ⟨hI', ?_⟩
   simp only [dif_pos hI,dif_pos hI']
   have:=(Classical.choose_spec (hμ a' w' hI')).2 y (hle' _ _ _ hn0 hc)
   omega
  | exit id=>exact ⟨.exit id,s',rfl,hq',hc⟩
  | ret=>exact ⟨.ret,s',rfl,hq',hc⟩
 | .exit id,Q,s,a,w,_,_,h,hq=>wp_exit ⟨.exit id,s,rfl,hq,h⟩
 | .ret,Q,s,a,w,_,_,h,hq=>wp_ret ⟨.ret,s,rfl,hq,h⟩
 | .rangeFunc ..,_,_,_,_,_,_,_,hq=>hq.elim
 | .scope _,_,_,_,_,_,_,_,hq=>hq.elim
 | .label _,_,_,_,_,_,_,_,hq=>hq.elim
 | .goto _,_,_,_,_,_,_,_,hq=>hq.elim
 | .refuse _,_,_,_,_,_,_,_,hq=>hq.elim
theorem Y2C {K K' : List Ob → Prop} (hK : ∀ H,K H → K' H) : ∀ {ids : List Nat} {H : List Ob},frzC H K ids → frzC H K' ids
 | [],_,h=>hK _ h
 | _ :: _,_,⟨ob,h1,h2,h3,h4⟩=>⟨ob,h1,h2,h3,Y2C hK h4⟩
theorem Y4i {ops : Array Oper} {sl : Sl} {K K' : St → Prop} (hK : ∀ s,K s → K' s) : ∀ {l : List Oper} {s : St},wpL P ops sl K l s → wpL P ops sl K' l s
 | [],_,h=>hK _ h
 | o :: rest,s,h=>by
  rw [X7a] at *
  exact Y0t (fun s h=>Y4i hK h) h
theorem Y0k {op : Op} {ρ : Operand → V} {H : List Ob} {K K' : V → List Ob → Prop} (hK : ∀ v H,K v H → K' v H) (h : wpV P op ρ H K) : wpV P op ρ H K':=Y4h (fun v H2 _ _ h=>hK v H2 h) h
theorem Y4j {op : Op} {ρ : Operand → V} {H : List Ob} {K K' : V → List Ob → Prop} (hK : ∀ v H,K v H → K' v H) (h : wpG P op ρ H K) : wpG P op ρ H K':=by
 unfold wpG at *
 split at h
 ·refine h.imp (fun h=>?_) (Or.imp (Y6a hK) (Y0k hK))
  unfold callG at *
  split at h
  ·obtain ⟨js,args,H0,r,H1,h1,h2,h3,h4,h5,h6,h7⟩:=h
   exact ⟨js,args,H0,r,H1,h1,h2,h3,h4,h5,h6,hK _ _ h7⟩
  ·exact h.elim
 ·unfold bslO at *
  obtain ⟨e,sz,z,h1,h2,h3,h4,h5,h6⟩:=h
  refine ⟨e,sz,z,h1,h2,h3,h4,h5, ?_⟩
  split at h6
  ·rw [if_pos ‹_›]; exact ⟨h6.1,hK _ _ h6.2⟩
  ·rw [if_neg ‹_›]
   obtain ⟨d,h7,h8⟩:=Q5V h6
   exact h8 _ (hK _ _ h7)
 ·refine h.imp (fun h=>?_) (fun ⟨x,y,t,tn,h1,h2,h⟩=>⟨x,y,t,tn,h1,h2,Y8R hK h⟩)
  obtain ⟨x,y,t,h1,h2,h⟩:=h
  refine ⟨x,y,t,h1,h2,Y8S (fun h=>?_) hK h⟩
  have q:=Y0k (op:=.call { callee:=.builtin .append,args:=#[x,y],argTypes:=#[t,t] }) hK (ρ:=ρ) (H:=H) ⟨x,y,t,rfl,rfl,h⟩
  obtain ⟨x',y',t',e1,e2,q⟩:=q
  simp at e1 e2
  obtain ⟨rfl,rfl⟩:=e1
  subst e2
  exact q
 ·obtain ⟨x,y,t,t2,h1,h2,h⟩:=h
  exact ⟨x,y,t,t2,h1,h2,Y8z hK h⟩
 ·obtain ⟨x,t,h1,h2,h⟩:=h
  exact ⟨x,t,h1,h2,Y8K hK h⟩
 ·exact hK _ _ h
 ·exact Y7y hK h
 ·exact Y7B hK h
 ·exact Y0k hK h
theorem X2C {ops : Array Oper} {K K' : St → Prop} (hK : ∀ s,K s → K' s) : ∀ {l : List Oper} {s : St},wpM P ops K l s → wpM P ops K' l s
 | [],_,h=>hK _ h
 | o :: rest,s,h=>by
  unfold wpM gdC at *
  split at h
  ·exact Y4j (fun v H h=>X2C hK h) h
  ·rcases h with ⟨t,b,h1,h2,h3,h4⟩ | ⟨t,h1,h2,h3⟩
   ·exact .inl ⟨t,b,h1,h2,fun e=>Y4j (fun v H h=>X2C hK h) (h3 e),fun e=>X2C hK (h4 e)⟩
   ·exact .inr ⟨t,h1,h2,X2C hK h3⟩
theorem Q5h {an : Ann} : ∀ {c : Code} {Q Q' : AE → St → Prop} {s : St},(∀ e s,Q e s → Q' e s) → awp P an c Q s → awp P an c Q' s
 | .skip,Q,Q',s,hQ,h=>hQ _ _ h
 | .region id ops draw,Q,Q',s,hQ,h=>by
  have key : ∀ s : St,frzC s.hp (fun H=>regM P (!draw && eln an.mu id) ops ⟨slL (dsL an id draw) H.length,ltL an id draw,mcl (ltL an id draw)⟩ (fun s'=>Q .normal (s'.prune an.keep)) (ordL an id draw ops) { s with hp:=H ++ resL (dsL an id draw) }) ((an.frz.lookup id).getD []) →
    frzC s.hp (fun H=>regM P (!draw && eln an.mu id) ops ⟨slL (dsL an id draw) H.length,ltL an id draw,mcl (ltL an id draw)⟩ (fun s'=>Q' .normal (s'.prune an.keep)) (ordL an id draw ops) { s with hp:=H ++ resL (dsL an id draw) }) ((an.frz.lookup id).getD []):=by
   intro s h
   refine Y2C (fun H h=>?_) h
   unfold regM at *
   split at h
   ·rename_i e; exact X2C (fun s h=>hQ _ _ h) h
   ·rename_i e; exact Y4i (fun s h=>hQ _ _ h) h
  change entC an.n0 (eln an.ent id) s _
  change entC an.n0 (eln an.ent id) s _ at h
  unfold entC at *
  split at h
  ·obtain ⟨s',h1,h2⟩:=h; exact ⟨s',h1,key s' h2⟩
  ·exact key s h
 | .seq x y,Q,Q',s,hQ,h=>by
  change awp P an x (AE.next (awp P an y Q) Q) s at h
  change awp P an x (AE.next (awp P an y Q') Q') s
  refine Q5h (fun e s h=>?_) h
  cases e with
  | normal=>exact Q5h hQ h
  | exit id=>exact hQ _ _ h
  | ret=>exact hQ _ _ h
 | .cond c x y,Q,Q',s,hQ,h=>by
  obtain ⟨b,h1,h2,h3⟩:=h
  exact ⟨b,h1,fun e=>Q5h hQ (h2 e),fun e=>Q5h hQ (h3 e)⟩
 | .block id c,Q,Q',s,hQ,h=>by
  change awp P an c (AE.inBlock id Q) s at h
  change awp P an c (AE.inBlock id Q') s
  refine Q5h (fun e s h=>?_) h
  cases e with
  | normal=>exact hQ _ _ h
  | exit j =>
   simp only [AE.inBlock] at *
   split at h
   ·rw [if_pos ‹_›]; exact hQ _ _ h
   ·rw [if_neg ‹_›]; exact hQ _ _ h
  | ret=>exact hQ _ _ h
 | .loop c,Q,Q',s,hQ,h=>by
  obtain ⟨α,F,μ,x0,h1,h2⟩:=h
  refine ⟨α,F,μ,x0,h1,fun x=>Q5h (fun e s h=>?_) (h2 x)⟩
  cases e with
  | normal=>exact h
  | exit id=>exact hQ _ _ h
  | ret=>exact hQ _ _ h
 | .exit id,Q,Q',s,hQ,h=>hQ _ _ h
 | .ret,Q,Q',s,hQ,h=>hQ _ _ h
 | .rangeFunc ..,_,_,_,_,h=>h.elim
 | .scope _,_,_,_,_,h=>h.elim
 | .label _,_,_,_,_,h=>h.elim
 | .goto _,_,_,_,_,h=>h.elim
 | .refuse _,_,_,_,_,h=>h.elim
end
def initTm : Nat → List V → List (Nat × V)
 | _,[]=>[]
 | i,v :: vs=>(i,v) :: initTm (i + 1) vs
def resC (P : Program) : List ResultVar → St → (List V → Prop) → Prop
 | [],_,K=>K []
 | .tmp t :: r,s,K=>resC P r s fun vs=>K (s.get t :: vs)
 | .cell a t :: r,s,K=>ldP P t (s.get a) s.hp fun v=>resC P r s fun vs=>K (v :: vs)
def V.one (vs : List V) : V:=match vs with
 | [v]=>v
 | vs=>.tup vs
def V.gd : V → Prop
 | .any | .lit _ | .emp | .sl .s _ _ _ | .ptr .s _ | .sl .u _ _ _ | .ptr .u _=>True
 | _=>False
def kill (js : List Nat) (H : List Ob) : List Ob:=H.zipIdx.map fun p=>if p.2 ∈ js then { p.1 with st:=.dead } else p.1
mutual
inductive Ex (H : List Ob) (js : List Nat) : V → V → Prop
 | le (v v' : V) : v.nu → Le (kill js H) .s v v' → Ex H js v v'
 | gd (v : V) : v.gd → Ex H js v v
 | ref (id i off : Nat) : js[i]? = some id → Ex H js (.ref id off) (.ref i off)
 | rsl (id i sz o n : Nat) : js[i]? = some id → Ex H js (.rsl id sz o n) (.rsl i sz o n)
 | agg (vs vs' : List V) : ExL H js vs vs' → Ex H js (.agg vs) (.agg vs')
 | tup (vs vs' : List V) : ExL H js vs vs' → Ex H js (.tup vs) (.tup vs')
inductive ExL (H : List Ob) (js : List Nat) : List V → List V → Prop
 | nil : ExL H js [] []
 | cons (v v' : V) (vs vs' : List V) : Ex H js v v' → ExL H js vs vs' → ExL H js (v :: vs) (v' :: vs')
end
def ExO (H : List Ob) (js : List Nat) : List Nat → List Ob → Prop
 | [],[]=>True
 | j :: r,ob' :: objs=>(∃ ob,H[j]? = some ob ∧ ob.st = .own ∧ ob'.st = .own ∧ ob.ty = ob'.ty ∧ ExL H js ob.cs ob'.cs) ∧ ExO H js r objs
 | _,_=>False
def RetTo (H : List Ob) (v r : V) (objs : List Ob) : Prop:=(objs = [] ∧ Le H .s v r) ∨ ∃ js,js.Nodup ∧ ExO H js js objs ∧ Ex H js v r
def Ret (P : Program) (fn : Func) (r : V) (objs : List Ob) : AE → St → Prop:=fun e s=>(match e with | .exit _=>False | _=>True) ∧ resC P fn.results.toList s fun vs=>RetTo s.hp (V.one vs) r objs
section
variable {P : Program} {E : Env}
theorem X4T {fn : Func} : ∀ {rs : List ResultVar} {s : St} {K : List V → Prop},resC P rs s K → ∃ vs,vs.length = rs.length ∧ K vs ∧ ∀ {a : Act} {w : World} {κ : KM} {S : BS} {uss : List (List Nat)},Cn E s a w κ S uss →
  ∃ xs : List Value,RepL w S E.B κ vs xs [] ∧ (rs.mapM fun | ResultVar.tmp t=>(pure (a.tmps.getD t undef) : Sem Value) | ResultVar.cell p t=>do loadVar t (← asAddr (a.tmps.getD p undef))).run P w = .ok xs w
 | [],s,K,h=>⟨[],rfl,h,fun _=>⟨[],⟨rfl,rfl⟩,by simp⟩⟩
 | .tmp t :: rs,s,K,h=>by
  obtain ⟨vs,h0,h1,h2⟩:=X4T (fn:=fn) (rs:=rs) h
  refine ⟨s.get t :: vs,by simp [h0],h1,fun hc=>?_⟩
  obtain ⟨xs,h3,h4⟩:=h2 hc
  exact ⟨_ :: xs,⟨_,_,[],[],rfl,rfl,hc.ev (.tmp t),h3⟩,by simp only [List.mapM_cons,Sem.run_bind,Sem.run_pure,Result.andThen_ok,h4]; rfl⟩
 | .cell p t :: rs,s,K,h=>by
  have key : ∃ v,(resC P rs s fun vs=>K (v :: vs)) ∧ ∀ {a : Act} {w : World} {κ : KM} {S : BS} {uss : List (List Nat)},Cn E s a w κ S uss →
    ∃ x,Rep w S E.B κ v x [] ∧ (do loadVar t (← asAddr (a.tmps.getD p undef)) : Sem Value).run P w = .ok x w:=by
   have hq : qC P (.load t (.tmp p)) s.ev s.hp (fun v=>resC P rs s fun vs=>K (v :: vs)):=h
   unfold resC at h
   unfold ldP at h
   split at h
   ·rename_i f cs hx
    obtain ⟨v,hK,hv⟩:=X3j h
    refine ⟨v,hK,fun {a w κ S uss} hc=>?_⟩
    have hr:=hc.ev (.tmp p)
    rw [show s.ev (.tmp p) = _ from hx] at hr
    obtain ⟨b,o',u,h1,h2,h3⟩:=hr
    obtain rfl:=h3.nil
    obtain ⟨xs,e1,e2,e3⟩:=h2.vals
    obtain ⟨z,u,e4,e5,e6,e7⟩:=hv e1 e2 (RepL.in (B':=E.B) (κ':=κ) Flb.le (fun _ _ h=>by simp at h) e3)
    obtain rfl:=e6 (.inl rfl)
    refine ⟨z,e7, ?_⟩
    rw [show a.tmps.getD p undef = _ from h1]
    simpa [Instr.loadAt,Instr.sureAddr,asAddr] using e4
   ·rename_i id off hx
    obtain ⟨ob,hi,hst,hnu,h⟩:=h
    have hkeep:=h
    obtain ⟨v,hK,hv⟩:=X3j h
    refine ⟨v,hK,fun {a w κ S uss} hc=>?_⟩
    have hr:=hc.ev (.tmp p)
    rw [show s.ev (.tmp p) = _ from hx] at hr
    obtain ⟨_,b,h1,h2⟩:=hr
    rcases hc.toHp.leok.cells hi hst h1 with ⟨h0,_⟩ | ⟨b',u,hb,_,_,_,hm⟩
    ·cases h0
    ·obtain rfl : b = b':=by simpa using hb
     by_cases hle : off ≤ ob.cs.length
     ·obtain ⟨u2,_,hm2⟩:=hm.drop off hle
      rw [Nat.zero_add] at hm2
      obtain ⟨xs,e1,e2,e3⟩:=hm2.vals
      obtain ⟨z,u,e4,e5,e6,e7⟩:=hv e1 e2 e3
      obtain rfl:=e6 (.inr hnu)
      refine ⟨z,e7, ?_⟩
      rw [show a.tmps.getD p undef = _ from h2]
      simpa [Instr.loadAt,Instr.sureAddr,asAddr] using e4
     ·exfalso
      obtain ⟨n,hn,hpos,hl,hh⟩:=hkeep
      rw [List.drop_eq_nil_of_le (by omega)] at hl
      simp at hl; omega
   ·exact h.elim
  obtain ⟨v,hv1,hv2⟩:=key
  obtain ⟨vs,h0,h1,h2⟩:=X4T (fn:=fn) (rs:=rs) hv1
  refine ⟨v :: vs,by simp [h0],h1,fun hc=>?_⟩
  obtain ⟨xs,h3,h4⟩:=h2 hc
  obtain ⟨x,h5,h6⟩:=hv2 hc
  refine ⟨x :: xs,⟨x,xs,[],[],rfl,rfl,h5,h3⟩, ?_⟩
  rw [Sem.run_bind] at h6
  simp only [List.mapM_cons,Sem.run_bind,Sem.run_pure,h6,Result.andThen_ok,h4]
theorem Q6n {fn : Func} {s : St} {K : V → Prop} (h : resC P fn.results.toList s fun vs=>K (V.one vs)) : ∃ v,K v ∧ ∀ {a : Act} {w : World} {κ : KM} {S : BS} {uss : List (List Nat)},Cn E s a w κ S uss →
  ∃ x,Rep w S E.B κ v x [] ∧ (results fn a.tmps).run P w = .ok x w:=by
 obtain ⟨vs,hl,hK,hv⟩:=X4T (E:=E) (fn:=fn) h
 refine ⟨_,hK,fun {a w κ S uss} hc=>?_⟩
 obtain ⟨xs,h1,h2⟩:=hv hc
 have hxl:=h1.length
 have hm : (fn.results.mapM fun | ResultVar.tmp t=>(pure (a.tmps.getD t undef) : Sem Value) | ResultVar.cell p t=>do loadVar t (← asAddr (a.tmps.getD p undef))).run P w = .ok xs.toArray w:=by
  rw [Array.mapM_eq_mapM_toList]
  simp only [Sem.run_map,h2,Result.andThen_ok]
 have hrun : (results fn a.tmps).run P w = .ok (if h : xs.toArray.size = 1 then xs.toArray[0] else .tuple xs.toArray) w:=by
  unfold results
  rw [Sem.run_bind]
  exact Eq.trans (congrArg (fun r=>Result.andThen r _) hm) rfl
 refine ⟨_, ?_,hrun⟩
 by_cases h1' : xs.length = 1
 ·obtain ⟨x,rfl⟩ : ∃ x,xs = [x]:=List.length_eq_one_iff.1 h1'
  obtain ⟨v,rfl⟩ : ∃ v,vs = [v]:=List.length_eq_one_iff.1 (by simpa using hxl.symm)
  obtain ⟨y,ys,u1,u2,e1,e2,e3,e4⟩:=h1
  simp only [List.cons.injEq] at e1
  obtain ⟨rfl,_⟩:=e1
  have : u1 = []:=by cases u1 with | nil=>rfl | cons z zs=>simp at e2
  subst this
  simpa [V.one] using e3
 ·have e : V.one vs = .tup vs:=by
   unfold V.one
   split
   ·rename_i v; simp at hxl; omega
   ·rfl
  rw [e]
  rw [dif_neg (by simpa using h1')]
  exact ⟨xs.toArray,rfl,by simpa using h1⟩
end
theorem Q2s : ∀ {vs : List V} {i t : Nat} {v : V},(initTm i vs).lookup t = some v → i ≤ t ∧ vs[t - i]? = some v
 | [],i,t,v,h=>by simp [initTm] at h
 | u :: vs,i,t,v,h=>by
  simp only [initTm,List.lookup_cons] at h
  by_cases e : t = i
  ·subst e; simp at h; simp [h]
  ·have : (t == i) = false:=by simpa using e
   rw [this] at h
   obtain ⟨h1,h2⟩:=Q2s h
   refine ⟨by omega, ?_⟩
   rw [show t - i = (t - (i + 1)) + 1 by omega,List.getElem?_cons_succ]; exact h2
structure Txt (P : Program) (f : FuncId) (fn : Func) (c : Code) (or : List (Nat × (List Nat × List Nat × List Nat))) : Prop where
 en : Enters P f
 hf : P.funcs[f]? = some fn
 hb : fn.body = some c
 hd : dstOk fn.ntmps c = true
 hw : drwOk or c = true
def RetS (P : Program) (rs : List ResultVar) (r : V) : AE → St → Prop:=fun e s=>(match e with | .exit _=>False | _=>True) ∧ resC P rs s fun vs=>Le s.hp .s (V.one vs) r
section
variable {P : Program}
theorem PC.intro (hm : P.follows .mixedOrders = true) {f : FuncId} {fn : Func} {c : Code} {args : List V} {r : V} {an : Ann} (hen : Enters P f) (hf : P.funcs[f]? = some fn) (hb : fn.body = some c) (hd : dstOk fn.ntmps c = true) (hw : drwOk an.ord c = true) (ha : Nat.ble args.length fn.ntmps = true)
  (h : awp P an c (RetS P fn.results.toList r) ⟨initTm 0 args,[]⟩) : PC P f args r []:=by
 refine ⟨hen, ?_⟩
 intro w S B xs hbnd hrep
 refine calls_of_wp hf hb ?_
 have hlen:=hrep.length
 have ha:=Nat.le_of_ble_eq_true ha
 let E : Env:=⟨w,[],S,B,fn.ntmps,[]⟩
 have hc0 : CN E ⟨initTm 0 args,[]⟩ { tmps:=xs.toArray ++ Array.replicate (fn.ntmps - xs.toArray.size) undef,defers:=[] } w:=by
  refine ⟨[],S,[],{ kl:=rfl,al:=by intro i ob h; simp at h,ul:=rfl,ob:=by intro i ob k us h; simp at h,nd:=by simp,ow:=by simp,sb:=fun b h=>hbnd b (.inl h),s0:=fun _ h=>h,s1:=fun _ h=>.inl h,bb:=fun b h=>hbnd b (.inr h),kp:=Keeps.refl _ _,kk:=fun _ _ h=>by simp [E] at h,fr:=?_,df:=rfl,sz:=by simp [E]; omega }⟩
  intro t v ht
  obtain ⟨_,h1⟩:=Q2s ht
  rw [Nat.sub_zero] at h1
  obtain ⟨x,u,e1,e2,e3⟩:=hrep.get h1
  have : u = []:=by cases u with | nil=>rfl | cons z zs=>have:=e2 z (by simp); simp at this
  subst this
  have hlt:=(List.getElem?_eq_some_iff.1 e1).1
  have : (xs.toArray ++ Array.replicate (fn.ntmps - xs.toArray.size) undef).getD t undef = x:=by
   rw [Array.getD_eq_getD_getElem?,Array.getElem?_append_left (by simpa using hlt)]
   simp [e1]
  rw [this]; exact e3
 refine wp_mono (Q1N (E:=E) hm (Nat.zero_le _) hd hw hc0 h) ?_
 rintro e a' w' ⟨e',s',rfl,⟨he,hq⟩,hc⟩
 obtain ⟨v,hle,hv⟩:=Q6n (E:=E) (K:=fun v=>Le s'.hp .s v r) hq
 obtain ⟨κ,S',uss,hcn⟩:=hc
 obtain ⟨x,hx,hrun⟩:=hv hcn
 have hfin : Below w.heap.size w w' ∧ PCout w w' S r [] x:=by
  refine ⟨hcn.kp.below,[],fun b=>S' b ∨ b ∈ uss.flatten,[],fun b h=>.inl (hcn.s0 b h), ?_, ?_,rfl,by simp,rfl,by simp,by simp,by simp⟩
  ·rintro b (hb | hb)
   ·rcases hcn.s1 b hb with h | h | h
    ·exact .inl h
    ·exact .inr ⟨h,hcn.sb b hb⟩
    ·simp [E] at h
   ·obtain ⟨_,_,h3,h4⟩:=hcn.ow b hb
    rcases h4 with h4 | h4
    ·exact .inr ⟨h4,h3⟩
    ·simp [E] at h4
  ·refine Le.sound (f:=.s) (uss:=uss) (κ:=κ) (H:=s'.hp) (by intro h; cases h) (fun b h=>.inl h) hle (by intro h; cases h) (.inr ⟨rfl,B, ?_⟩) (by simp) hx
   exact { kl:=hcn.kl,ul:=hcn.ul,ob:=hcn.ob,s:=fun b h=>.inl h,b:=(by intro h; cases h),t:=fun b h=>.inr h,nu:=(by intro h; cases h) }
 cases e' with
 | normal=>exact ⟨hcn.df,x,hrun,x,rfl,hfin⟩
 | exit id=>exact he.elim
 | ret=>exact ⟨hcn.df,x,hrun,x,rfl,hfin⟩
end
def RtB (H : List Ob) (v r : V) (H1 : List Ob) : Prop:=∀ (E : Env) (w : World) (κ : KM) (S : BS) (uss : List (List Nat)) (x : Value),E.K0.length ≤ 0 → Hp E H w κ S uss → Rep w S E.B κ v x [] →
 ∃ κ' S' uss',Hp E H1 w κ' S' uss' ∧ Rep w S' E.B κ' r x []
def RetB (P : Program) (rs : List ResultVar) (r : V) (H1 : List Ob) : AE → St → Prop:=fun e s=>(match e with | .exit _=>False | _=>True) ∧ resC P rs s fun vs=>RtB s.hp (V.one vs) r H1
def RtG (n0 : Nat) (H : List Ob) (v r : V) (H1 : List Ob) : Prop:=∀ (E : Env) (w : World) (κ : KM) (S : BS) (uss : List (List Nat)) (x : Value),E.K0.length ≤ n0 → Hp E H w κ S uss → Rep w S E.B κ v x [] →
 ∃ κ' S' uss',Hp { E with B:=fun _=>False } H1 w κ' S' uss' ∧ Rep w S' (fun _=>False) κ' r x []
def RetG (P : Program) (n0 : Nat) (rs : List ResultVar) (r : V) (H1 : List Ob) : AE → St → Prop:=fun e s=>(match e with | .exit _=>False | _=>True) ∧ resC P rs s fun vs=>RtG n0 s.hp (V.one vs) r H1
def RetI (P : Program) (rs : List ResultVar) (r : V) (H1 : List Ob) : AE → St → Prop:=fun e s=>(match e with | .exit _=>False | _=>True) ∧ resC P rs s fun vs=>s.hp = H1 ∧ V.one vs = r
section
variable {P : Program}
theorem Hp.env {E E' : Env} {H : List Ob} {w : World} {κ : KM} {S : BS} {uss : List (List Nat)} (h : Hp E H w κ S uss) (h1 : E.w0 = E'.w0) (h2 : E.M = E'.M) (h3 : E.S0 = E'.S0) (h4 : E.B = E'.B) (h5 : E.K0 = E'.K0) : Hp E' H w κ S uss:=by
 obtain ⟨a1,a2,a3,a4,a5,a6⟩:=E
 obtain ⟨b1,b2,b3,b4,b5,b6⟩:=E'
 simp only at h1 h2 h3 h4 h5
 subst h1; subst h2; subst h3; subst h4; subst h5
 exact ⟨h.kl,h.al,h.ul,h.ob,h.nd,h.ow,h.sb,h.s0,h.s1,h.bb,h.kp,h.kk⟩
theorem GC.intro (hm : P.follows .mixedOrders = true) {f : FuncId} {fn : Func} {c : Code} {args : List V} {r : V} {H0 H1 : List Ob} {an : Ann} (hen : Enters P f) (hf : P.funcs[f]? = some fn) (hb : fn.body = some c) (hd : dstOk fn.ntmps c = true) (hw : drwOk an.ord c = true) (ha : Nat.ble args.length fn.ntmps = true)
  (hn : H0.length = an.n0) (h : awp P an c (RetG P an.n0 fn.results.toList r H1) ⟨initTm 0 args,H0⟩) : GC P f args H0 r H1:=by
 refine ⟨hen, ?_⟩
 intro w S B κ uss xs hp0 hrep
 refine calls_of_wp hf hb ?_
 have hlen:=hrep.length
 have ha:=Nat.le_of_ble_eq_true ha
 let E : Env:=⟨w,uss.flatten,S,B,fn.ntmps,κ⟩
 have hpE : Hp E H0 w κ S uss:=⟨hp0.kl,hp0.al,hp0.ul,hp0.ob,hp0.nd,hp0.ow,hp0.sb,hp0.s0,hp0.s1,hp0.bb,hp0.kp,fun _ _ h=>h⟩
 have hc0 : CN E ⟨initTm 0 args,H0⟩ { tmps:=xs.toArray ++ Array.replicate (fn.ntmps - xs.toArray.size) undef,defers:=[] } w:=by
  refine ⟨κ,S,uss,hpE, ?_,rfl,by simp [E]; omega⟩
  intro t v ht
  obtain ⟨_,h1⟩:=Q2s ht
  rw [Nat.sub_zero] at h1
  obtain ⟨x,u,e1,e2,e3⟩:=hrep.get h1
  have : u = []:=by cases u with | nil=>rfl | cons z zs=>have:=e2 z (by simp); simp at this
  subst this
  have hlt:=(List.getElem?_eq_some_iff.1 e1).1
  have : (xs.toArray ++ Array.replicate (fn.ntmps - xs.toArray.size) undef).getD t undef = x:=by
   rw [Array.getD_eq_getD_getElem?,Array.getElem?_append_left (by simpa using hlt)]
   simp [e1]
  rw [this]; exact e3
 have hK : E.K0.length ≤ an.n0:=by show κ.length ≤ an.n0; rw [hp0.kl,hn]; exact Nat.le_refl _
 refine wp_mono (Q1N (E:=E) hm hK hd hw hc0 h) ?_
 rintro e a' w' ⟨e',s',rfl,⟨he,hq⟩,hc⟩
 obtain ⟨v,hrt,hv⟩:=Q6n (E:=E) (K:=fun v=>RtG an.n0 s'.hp v r H1) hq
 obtain ⟨κ',S',uss',hcn⟩:=hc
 obtain ⟨x,hx,hrun⟩:=hv hcn
 obtain ⟨κ2,S2,uss2,h1,h2⟩:=hrt E w' κ' S' uss' x hK hcn.toHp hx
 have hfin : ∃ (κ' : KM) (S' : BS) (uss' : List (List Nat)),Hp ⟨w,uss.flatten,S,fun _=>False,0,κ⟩ H1 w' κ' S' uss' ∧ Rep w' S' (fun _=>False) κ' r x [] :=
  ⟨κ2,S2,uss2,h1.env rfl rfl rfl rfl rfl,h2⟩
 cases e' with
 | normal=>exact ⟨hcn.df,x,hrun,x,rfl,hfin⟩
 | exit id=>exact he.elim
 | ret=>exact ⟨hcn.df,x,hrun,x,rfl,hfin⟩
theorem IC.intro (hm : P.follows .mixedOrders = true) {f : FuncId} {fn : Func} {c : Code} {args : List V} {r : V} {H0 H1 : List Ob} {an : Ann} (hen : Enters P f) (hf : P.funcs[f]? = some fn) (hb : fn.body = some c) (hd : dstOk fn.ntmps c = true) (hw : drwOk an.ord c = true) (ha : Nat.ble args.length fn.ntmps = true)
  (hn : H0.length = an.n0) (h : awp P an c (RetI P fn.results.toList r H1) ⟨initTm 0 args,H0⟩) : IC P f args H0 r H1:=by
 refine ⟨hen, ?_⟩
 intro w S B κ uss xs hp0 hrep
 refine calls_of_wp hf hb ?_
 have hlen:=hrep.length
 have ha:=Nat.le_of_ble_eq_true ha
 let E : Env:=⟨w,uss.flatten,S,B,fn.ntmps,κ⟩
 have hpE : Hp E H0 w κ S uss:=⟨hp0.kl,hp0.al,hp0.ul,hp0.ob,hp0.nd,hp0.ow,hp0.sb,hp0.s0,hp0.s1,hp0.bb,hp0.kp,fun _ _ h=>h⟩
 have hc0 : CN E ⟨initTm 0 args,H0⟩ { tmps:=xs.toArray ++ Array.replicate (fn.ntmps - xs.toArray.size) undef,defers:=[] } w:=by
  refine ⟨κ,S,uss,hpE, ?_,rfl,by simp [E]; omega⟩
  intro t v ht
  obtain ⟨_,h1⟩:=Q2s ht
  rw [Nat.sub_zero] at h1
  obtain ⟨x,u,e1,e2,e3⟩:=hrep.get h1
  have : u = []:=by cases u with | nil=>rfl | cons z zs=>have:=e2 z (by simp); simp at this
  subst this
  have hlt:=(List.getElem?_eq_some_iff.1 e1).1
  have : (xs.toArray ++ Array.replicate (fn.ntmps - xs.toArray.size) undef).getD t undef = x:=by
   rw [Array.getD_eq_getD_getElem?,Array.getElem?_append_left (by simpa using hlt)]
   simp [e1]
  rw [this]; exact e3
 have hK : E.K0.length ≤ an.n0:=by show κ.length ≤ an.n0; rw [hp0.kl,hn]; exact Nat.le_refl _
 refine wp_mono (Q1N (E:=E) hm hK hd hw hc0 h) ?_
 rintro e a' w' ⟨e',s',rfl,⟨he,hq⟩,hc⟩
 obtain ⟨v,⟨hrt1,rfl⟩,hv⟩:=Q6n (E:=E) (K:=fun v=>s'.hp = H1 ∧ v = r) hq
 obtain ⟨κ',S',uss',hcn⟩:=hc
 obtain ⟨x,hx,hrun⟩:=hv hcn
 have hp2:=hcn.toHp
 rw [hrt1] at hp2
 have hfin : ∃ (κ' : KM) (S' : BS) (uss' : List (List Nat)),Hp ⟨w,uss.flatten,S,B,0,κ⟩ H1 w' κ' S' uss' ∧ Rep w' S' B κ' v x [] :=
  ⟨κ',S',uss',hp2.env rfl rfl rfl rfl rfl,hx⟩
 cases e' with
 | normal=>exact ⟨hcn.df,x,hrun,x,rfl,hfin⟩
 | exit id=>exact he.elim
 | ret=>exact ⟨hcn.df,x,hrun,x,rfl,hfin⟩
theorem PB.intro (hm : P.follows .mixedOrders = true) {f : FuncId} {fn : Func} {c : Code} {args : List V} {r : V} {H1 : List Ob} {an : Ann} (hen : Enters P f) (hf : P.funcs[f]? = some fn) (hb : fn.body = some c) (hd : dstOk fn.ntmps c = true) (hw : drwOk an.ord c = true) (ha : Nat.ble args.length fn.ntmps = true)
  (hn : an.n0 = 0) (h : awp P an c (RetB P fn.results.toList r H1) ⟨initTm 0 args,[]⟩) : PB P f args r H1:=by
 refine ⟨hen, ?_⟩
 intro w S B xs hbnd hrep
 refine calls_of_wp hf hb ?_
 have hlen:=hrep.length
 have ha:=Nat.le_of_ble_eq_true ha
 let E : Env:=⟨w,[],S,B,fn.ntmps,[]⟩
 have hpE : Hp E [] w [] S []:={ kl:=rfl,al:=by intro i ob h; simp at h,ul:=rfl,ob:=by intro i ob k us h; simp at h,nd:=by simp,ow:=by simp,sb:=fun b h=>hbnd b (.inl h),s0:=fun _ h=>h,s1:=fun _ h=>.inl h,bb:=fun b h=>hbnd b (.inr h),kp:=Keeps.refl _ _,kk:=fun _ _ h=>by simp [E] at h }
 have hc0 : CN E ⟨initTm 0 args,[]⟩ { tmps:=xs.toArray ++ Array.replicate (fn.ntmps - xs.toArray.size) undef,defers:=[] } w:=by
  refine ⟨[],S,[],hpE, ?_,rfl,by simp [E]; omega⟩
  intro t v ht
  obtain ⟨_,h1⟩:=Q2s ht
  rw [Nat.sub_zero] at h1
  obtain ⟨x,u,e1,e2,e3⟩:=hrep.get h1
  have : u = []:=by cases u with | nil=>rfl | cons z zs=>have:=e2 z (by simp); simp at this
  subst this
  have hlt:=(List.getElem?_eq_some_iff.1 e1).1
  have : (xs.toArray ++ Array.replicate (fn.ntmps - xs.toArray.size) undef).getD t undef = x:=by
   rw [Array.getD_eq_getD_getElem?,Array.getElem?_append_left (by simpa using hlt)]
   simp [e1]
  rw [this]; exact e3
 have hK : E.K0.length ≤ an.n0:=Nat.zero_le _
 refine wp_mono (Q1N (E:=E) hm hK hd hw hc0 h) ?_
 rintro e a' w' ⟨e',s',rfl,⟨he,hq⟩,hc⟩
 obtain ⟨v,hrt,hv⟩:=Q6n (E:=E) (K:=fun v=>RtB s'.hp v r H1) hq
 obtain ⟨κ',S',uss',hcn⟩:=hc
 obtain ⟨x,hx,hrun⟩:=hv hcn
 obtain ⟨κ2,S2,uss2,hp,h2⟩:=hrt E w' κ' S' uss' x (Nat.zero_le _) hcn.toHp hx
 have hnew : ∀ b,S2 b → S b ∨ (w.heap.size ≤ b ∧ b < w'.heap.size):=by
  intro b hs
  rcases hp.s1 b hs with h | h | h
  ·exact .inl h
  ·exact .inr ⟨h,hp.sb b hs⟩
  ·simp [E] at h
 have hfin : Below w.heap.size w w' ∧ ∃ (κ : KM) (S' : BS) (uss : List (List Nat)),(∀ b,S b → S' b) ∧ (∀ b,S' b → S b ∨ (w.heap.size ≤ b ∧ b < w'.heap.size)) ∧ Rep w' S' B κ r x [] ∧
   κ.length = H1.length ∧ (∀ (i : Nat) (ob : Ob),H1[i]? = some ob → ob.st = .own ∨ ob.st = .frz → ∃ k,kat κ i = some k) ∧ uss.length = H1.length ∧
   (∀ (i : Nat) (ob : Ob) (k : Option Nat) (us : List Nat),H1[i]? = some ob → kat κ i = some k → uss[i]? = some us → ObR w' S' B κ ob k us) ∧
   uss.flatten.Nodup ∧ ∀ b ∈ uss.flatten,w.heap.size ≤ b ∧ b < w'.heap.size ∧ ¬ S' b:=by
  refine ⟨hp.kp.below,κ2,S2,uss2,hp.s0,hnew,h2,hp.kl,hp.al,hp.ul,hp.ob,hp.nd, ?_⟩
  intro b hb'
  obtain ⟨q1,q2,q3,q4⟩:=hp.ow b hb'
  refine ⟨?_,q3,q1⟩
  rcases q4 with q4 | q4
  ·exact q4
  ·simp [E] at q4
 cases e' with
 | normal=>exact ⟨hcn.df,x,hrun,x,rfl,hfin⟩
 | exit id=>exact he.elim
 | ret=>exact ⟨hcn.df,x,hrun,x,rfl,hfin⟩
end
inductive Tr {α : Type} (a : α) : Type where
 | mk
def gate (v : V) (H : List Ob) (K : V → List Ob → Prop) (_ : Tr K) : Prop:=K v H
def gateS (s : St) (K : St → Prop) (_ : Tr K) : Prop:=K s
def gateL (l : List Oper) (sl : Sl) (K : List Oper → Sl → Prop) (_ : Tr K) : Prop:=K l sl
@[congr] theorem Z2Y {v v' : V} {H H' : List Ob} {K : V → List Ob → Prop} {d : Tr K} (h : v = v') (h2 : H = H') : gate v H K d = gate v' H' K d:=by rw [h,h2]
@[congr] theorem Z1L {s s' : St} {K : St → Prop} {d : Tr K} (h : s = s') : gateS s K d = gateS s' K d:=by rw [h]
@[congr] theorem Z1M {l l' : List Oper} {sl sl' : Sl} {K : List Oper → Sl → Prop} {d : Tr K} (h : l = l') (h2 : sl = sl') : gateL l sl K d = gateL l' sl' K d:=by rw [h,h2]
@[go_sem] theorem J0A {v : V} {H : List Ob} {K : V → List Ob → Prop} {d : Tr K} : gate v H K d = K v H:=(rfl)
@[go_sem] theorem Z7H {s : St} {K : St → Prop} {d : Tr K} : gateS s K d = K s:=(rfl)
@[go_sem] theorem Z7I {l : List Oper} {sl : Sl} {K : List Oper → Sl → Prop} {d : Tr K} : gateL l sl K d = K l sl:=(rfl)
section
variable {P : Program} {an : Ann} {Q : AE → St → Prop} {s : St} {K : St → Prop} {H : List Ob} {ρ : Operand → V}
def condC (v : V) (A B : Prop) (_ : Tr (A,B)) : Prop:=∃ b,v = .lit (.bool b) ∧ (b = true → A) ∧ (b = false → B)
def loopC (P : Program) (an : Ann) (c : Code) (Q : AE → St → Prop) (s : St) (_ : Tr (c,Q)) : Prop:=∃ (α : Type) (F : α → St) (μ : α → Nat) (x0 : α),StI an.n0 s (F x0) ∧
   ∀ x,awp P an c (AE.next (fun s'=>∃ y,μ y < μ x ∧ StI an.n0 s' (F y)) Q) (F x)
def St.upd (s : St) (d : Option Tmp) (v : V) (H : List Ob) : St:={ (s.put d v) with hp:=H }
@[go_sem ↓] theorem Z7Y : awp P an .skip Q s = Q .normal s:=(rfl)
@[go_sem ↓] theorem J0U {x y : Code} : awp P an (.seq x y) Q s = awp P an x (AE.next (awp P an y Q) Q) s:=(rfl)
@[go_sem ↓] theorem Z8b {c : Operand} {x y : Code} : awp P an (.cond c x y) Q s = condC (s.ev c) (awp P an x Q s) (awp P an y Q s) .mk:=(rfl)
@[go_sem ↓] theorem Z5T {id : Nat} {c : Code} : awp P an (.block id c) Q s = awp P an c (AE.inBlock id Q) s:=(rfl)
@[go_sem ↓] theorem Z0b {c : Code} : awp P an (.loop c) Q s = loopC P an c Q s .mk:=(rfl)
@[go_sem ↓] theorem Z7Z {id : Nat} : awp P an (.exit id) Q s = Q (.exit id) s:=(rfl)
@[go_sem ↓] theorem J0V : awp P an .ret Q s = Q .ret s:=(rfl)
def regC (P : Program) (an : Ann) (o : Option (List Nat × List Nat × List Nat)) (l : List Oper) (Q : AE → St → Prop) (tm : List (Nat × V)) (H : List Ob) : Prop :=
 match o with
 | some p=>wpL P l.toArray ⟨slL p.2.1 H.length,p.2.2,mcl p.2.2⟩ (fun s'=>Q .normal (s'.prune an.keep)) (p.1.filterMap (l[·]?)) ⟨tm,H ++ resL p.2.1⟩
 | none=>wpL P l.toArray ⟨[],[],false⟩ (fun s'=>Q .normal (s'.prune an.keep)) l ⟨tm,H⟩
@[go_sem ↓] theorem Z3f {n0 : Nat} {K : St → Prop} : entC n0 false s K = K s:=(rfl)
@[congr] theorem Z3g {n0 : Nat} {b b' : Bool} {K : St → Prop} (h : b = b') : entC n0 b s K = entC n0 b' s K:=by rw [h]
@[go_sem ↓] theorem J0H {i : Nat} : eln [] i = false:=(rfl)
@[go_sem ↓] theorem Z7M {i j : Nat} {js : List Nat} : eln (j :: js) i = if i = j then true else eln js i:=(rfl)
def regN (P : Program) (an : Ann) (b : Bool) (l : List Oper) (Q : AE → St → Prop) (tm : List (Nat × V)) (H : List Ob) : Prop:=match b with
 | true=>wpM P l.toArray (fun s'=>gateS (s'.prune an.keep) (fun s=>Q .normal s) .mk) l ⟨tm,H⟩
 | false=>wpL P l.toArray ⟨[],[],false⟩ (fun s'=>gateS (s'.prune an.keep) (fun s=>Q .normal s) .mk) l ⟨tm,H⟩
@[go_sem ↓] theorem Z4v {l : List Oper} {tm : List (Nat × V)} {H : List Ob} : regN P an true l Q tm H = wpM P l.toArray (fun s'=>gateS (s'.prune an.keep) (fun s=>Q .normal s) .mk) l ⟨tm,H⟩:=(rfl)
@[go_sem ↓] theorem Z2z {l : List Oper} {tm : List (Nat × V)} {H : List Ob} : regN P an false l Q tm H = wpL P l.toArray ⟨[],[],false⟩ (fun s'=>gateS (s'.prune an.keep) (fun s=>Q .normal s) .mk) l ⟨tm,H⟩:=(rfl)
@[congr] theorem Z2A {b b' : Bool} {l : List Oper} {tm : List (Nat × V)} {H : List Ob} (h : b = b') : regN P an b l Q tm H = regN P an b' l Q tm H:=by rw [h]
def frzS (H : List Ob) (l : List Nat) (K : List Ob → Prop) (_ : Tr K) : Prop:=frzC H K l
def frzT (o : Option Ob) (H : List Ob) (id : Nat) (l : List Nat) (K : List Ob → Prop) (_ : Tr K) : Prop:=∃ ob,o = some ob ∧ ob.st = .own ∧ (∀ c ∈ ob.cs,c.cl) ∧ frzC (H.set id { ob with st:=.frz }) K l
@[congr] theorem Z3a {K : List Ob → Prop} {d : Tr K} {H H' : List Ob} {l l' : List Nat} (h : H = H') (hl : l = l') : frzS H l K d = frzS H' l' K d:=by rw [h,hl]
@[congr] theorem Z2Z {K : List Ob → Prop} {d : Tr K} {o o' : Option Ob} {H : List Ob} {id : Nat} {l : List Nat} (h : o = o') : frzT o H id l K d = frzT o' H id l K d:=by rw [h]
@[go_sem ↓] theorem Z7K {K : List Ob → Prop} {d : Tr K} : frzS H [] K d = K H:=(rfl)
@[go_sem ↓] theorem Z5x {K : List Ob → Prop} {d : Tr K} {id : Nat} {l : List Nat} : frzS H (id :: l) K d = frzT H[id]? H id l K d:=(rfl)
@[go_sem ↓] theorem Z7J {K : List Ob → Prop} {d : Tr K} {ty : TypeId} {cs : List V} {id : Nat} {l : List Nat} : frzT (some ⟨.own,ty,cs⟩) H id l K d = ((∀ c ∈ cs,c.cl) ∧ frzS (H.set id ⟨.frz,ty,cs⟩) l K d):=by
 unfold frzT frzS; simp
def regE (P : Program) (an : Ann) (id : Nat) (l : List Oper) (Q : AE → St → Prop) (s : St) : Prop:=frzS s.hp ((an.frz.lookup id).getD []) (fun H=>regN P an (eln an.mu id) l Q s.tm H) .mk
def regD (P : Program) (an : Ann) (id : Nat) (l : List Oper) (Q : AE → St → Prop) (s : St) : Prop:=frzS s.hp ((an.frz.lookup id).getD []) (fun H=>regC P an (an.ord.lookup id) l Q s.tm H) .mk
@[congr] theorem Z2B {id : Nat} {l : List Oper} {s' : St} (h : s = s') : regE P an id l Q s = regE P an id l Q s':=by rw [h]
@[congr] theorem Z2C {id : Nat} {l : List Oper} {s' : St} (h : s = s') : regD P an id l Q s = regD P an id l Q s':=by rw [h]
@[go_sem ↓] theorem Z9B {id : Nat} {l : List Oper} {tm : List (Nat × V)} {hp : List Ob} : regE P an id l Q ⟨tm,hp⟩ = frzS hp ((an.frz.lookup id).getD []) (fun H=>regN P an (eln an.mu id) l Q tm H) .mk:=(rfl)
@[go_sem ↓] theorem Z9C {id : Nat} {l : List Oper} {tm : List (Nat × V)} {hp : List Ob} : regD P an id l Q ⟨tm,hp⟩ = frzS hp ((an.frz.lookup id).getD []) (fun H=>regC P an (an.ord.lookup id) l Q tm H) .mk:=(rfl)
@[go_sem ↓] theorem Z3s {id : Nat} {l : List Oper} {tm : List (Nat × V)} {hp : List Ob} : awp P an (.region id l.toArray false) Q ⟨tm,hp⟩ = entC an.n0 (eln an.ent id) ⟨tm,hp⟩ (regE P an id l Q):=by
 show entC an.n0 (eln an.ent id) ⟨tm,hp⟩ (fun s=>frzC s.hp (fun H=>regM P (eln an.mu id) l.toArray ⟨[],[],false⟩ (fun s'=>Q .normal (s'.prune an.keep)) l { s with hp:=H ++ [] }) _) = _
 simp only [List.append_nil]
 rfl
@[go_sem ↓] theorem Z8a {id : Nat} {l : List Oper} {tm : List (Nat × V)} {hp : List Ob} : awp P an (.region id l.toArray true) Q ⟨tm,hp⟩ = entC an.n0 (eln an.ent id) ⟨tm,hp⟩ (regD P an id l Q):=by
 unfold regD regC awp dsL ltL ordL regM
 simp only [Bool.not_true,Bool.false_and]
 congr 1
 funext s
 congr 1
 funext H
 cases an.ord.lookup id with
 | none=>simp [slL,resL,mcl]
 | some p=>simp
@[congr] theorem Z2D {o o' : Option (List Nat × List Nat × List Nat)} {l : List Oper} {tm : List (Nat × V)} {H : List Ob} (h : o = o') : regC P an o l Q tm H = regC P an o' l Q tm H:=by rw [h]
@[go_sem ↓] theorem Z4x {l : List Oper} {tm : List (Nat × V)} {H : List Ob} : regC P an none l Q tm H = wpL P l.toArray ⟨[],[],false⟩ (fun s'=>gateS (s'.prune an.keep) (fun s=>Q .normal s) .mk) l ⟨tm,H⟩:=(rfl)
@[go_sem ↓] theorem Z4w {σ ds lt : List Nat} {l : List Oper} {tm : List (Nat × V)} {H : List Ob} : regC P an (some (σ,ds,lt)) l Q tm H =
  gateL (σ.filterMap (l[·]?)) ⟨slL ds H.length,lt,mcl lt⟩ (fun l' sl=>gateS ⟨tm,H ++ resL ds⟩ (fun s=>wpL P l.toArray sl (fun s'=>gateS (s'.prune an.keep) (fun s=>Q .normal s) .mk) l' s) .mk) .mk:=rfl
@[go_sem ↓] theorem Y9T {l : List Oper} {i : Nat} {σ : List Nat} : (i :: σ).filterMap (l[·]?) = (match l[i]? with | some o=>o :: σ.filterMap (l[·]?) | none=>σ.filterMap (l[·]?)):=by
 rw [List.filterMap_cons]
 cases l[i]? <;> rfl
attribute [go_sem] List.filterMap_nil
@[go_sem ↓] theorem Z9Z : mcl [] = false:=(rfl)
@[go_sem ↓] theorem Z7g {t : Nat} {ts : List Nat} : mcl (t :: ts) = if t = 999999 then true else mcl ts:=by
 rw [show mcl (t :: ts) = (Nat.beq t 999999 || mcl ts) from rfl]
 by_cases h : t = 999999
 ·subst h; simp
 ·rw [if_neg h]
  have : Nat.beq t 999999 = false:=by
   cases e : Nat.beq t 999999 with
   | false=>rfl
   | true=>exact absurd (Nat.eq_of_beq_eq_true e) h
  rw [this,Bool.false_or]
@[go_sem ↓] theorem Z9l {n : Nat} : slL [] n = []:=(rfl)
@[go_sem ↓] theorem Z6y {d n : Nat} {ds : List Nat} : slL (d :: ds) n = (d,n) :: slL ds (n + 1):=(rfl)
@[go_sem ↓] theorem Z6O : resL [] = []:=(rfl)
@[go_sem ↓] theorem Z4t {d : Nat} {ds : List Nat} : resL (d :: ds) = ⟨.res,0,[]⟩ :: resL ds:=(rfl)
@[congr] theorem Z5S {c : Code} {s s' : St} (h : s = s') : awp P an c Q s = awp P an c Q s':=by rw [h]
@[congr] theorem Z1y {c : Code} {d : Tr (c,Q)} {s s' : St} (h : s = s') : loopC P an c Q s d = loopC P an c Q s' d:=by rw [h]
@[congr] theorem Z2a {v v' : V} {A B : Prop} {d : Tr (A,B)} (h : v = v') : condC v A B d = condC v' A B d:=by rw [h]
@[go_sem high] theorem Z3i {A B : Prop} {d : Tr (A,B)} : condC (.lit (.bool true)) A B d = A:=by simp [condC]
@[go_sem high] theorem Z1Z {A B : Prop} {d : Tr (A,B)} : condC (.lit (.bool false)) A B d = B:=by simp [condC]
@[go_sem] theorem Z5K {A B : Prop} {d : Tr (A,B)} {p : Prop} [Decidable p] : condC (.lit (.bool (decide p))) A B d = ((p → A) ∧ (¬ p → B)):=by
 by_cases h : p <;> simp [condC,h]
@[go_sem low] theorem Z5J {b : Bool} {A B : Prop} {d : Tr (A,B)} : condC (.lit (.bool b)) A B d = ((b = true → A) ∧ (b = false → B)):=by
 simp only [condC,V.lit.injEq,Value.bool.injEq,exists_eq_left']
@[go_sem ↓] theorem Z1u {K : St → Prop} : AE.next K Q .normal s = K s:=(rfl)
@[go_sem ↓] theorem Z4P {K : St → Prop} {i : Nat} : AE.next K Q (.exit i) s = Q (.exit i) s:=(rfl)
@[go_sem ↓] theorem Z6Z {K : St → Prop} : AE.next K Q .ret s = Q .ret s:=(rfl)
@[go_sem ↓] theorem Y8X {i : Nat} : AE.inBlock i Q .normal s = Q .normal s:=(rfl)
@[go_sem ↓] theorem Z1I {i : Nat} : AE.inBlock i Q .ret s = Q .ret s:=(rfl)
@[go_sem ↓] theorem Z0x {i j : Nat} : AE.inBlock i Q (.exit j) s = if j = i then Q .normal s else Q (.exit j) s:=(rfl)
def mtS (b c : Bool) (A M : Prop) (_ : Tr (A,M)) : Prop:=((b && c) = false ∧ A) ∨ (b = true ∧ M)
@[congr] theorem Z4U {b b' c : Bool} {A M : Prop} {d : Tr (A,M)} (h : b = b') : mtS b c A M d = mtS b' c A M d:=by rw [h]
@[go_sem ↓] theorem Z4T {c : Bool} {A M : Prop} {d : Tr (A,M)} : mtS false c A M d = A:=by simp [mtS]
def sepS (p : Prop) (n : Option Nat) (P : Program) (op : Op) (ρ : Operand → V) (H : List Ob) (K : V → List Ob → Prop) : Prop:=p ∧ wpS P n op ρ H K
def gdA (d : Option Tmp) (want : Bool) (s : St) (yes no : St → Prop) : Prop :=
 (∃ t b,d = some t ∧ s.get t = .lit (.bool b) ∧ (b = want → yes (s.put (some t) (.lit (.bool want)))) ∧ (b = !want → no (s.put (some t) (.lit (.bool !want))))) ∨ (∃ t,d = some t ∧ s.get t = .tup [] ∧ no s)
def gdB (v : V) (t : Tmp) (want : Bool) (s : St) (yes no : St → Prop) (_ : Tr (yes,no)) : Prop :=
 (∃ b,v = .lit (.bool b) ∧ (b = want → yes (s.put (some t) (.lit (.bool want)))) ∧ (b = !want → no (s.put (some t) (.lit (.bool !want))))) ∨ (v = .tup [] ∧ no s)
@[go_sem ↓] theorem Z8s {ops : Array Oper} {sl : Sl} {tm : List (Nat × V)} {hp : List Ob} : wpL P ops sl K [] ⟨tm,hp⟩ = K ⟨tm,hp⟩:=(rfl)
@[go_sem ↓] theorem Z6i {ops : Array Oper} {sl : Sl} {d : Option Tmp} {op : Op} {ty : TypeId} {p : String} {af : Array Edge} {rest : List Oper} {tm : List (Nat × V)} {hp : List Ob} :
  wpL P ops sl K ({ dst:=d,op:=op,type:=ty,pos:=p,after:=af,guard:=none } :: rest) ⟨tm,hp⟩ =
   mtS sl.mc (avB op) (sepS (sepO sl.lt op ⟨tm,hp⟩) (slt sl.ns op d) P op (St.ev ⟨tm,hp⟩) hp (fun v H=>gate v H (fun v H=>wpL P ops sl K rest (St.upd ⟨tm,hp⟩ d v H)) .mk))
    (mutO P sl.lt { dst:=d,op:=op,type:=ty,pos:=p,after:=af,guard:=none } ⟨tm,hp⟩ (fun v H=>gate v H (fun v H=>wpL P ops sl K rest (St.upd ⟨tm,hp⟩ d v H)) .mk)) .mk:=rfl
@[go_sem ↓] theorem J1i {ops : Array Oper} {sl : Sl} {d : Option Tmp} {op : Op} {ty : TypeId} {p : String} {af : Array Edge} {rest : List Oper} {j : Nat} {want : Bool} {tm : List (Nat × V)} {hp : List Ob} :
  wpL P ops sl K ({ dst:=d,op:=op,type:=ty,pos:=p,after:=af,guard:=some (j,want) } :: rest) ⟨tm,hp⟩ =
   gdA ((ops[j]?).bind (·.dst)) want ⟨tm,hp⟩ (fun s=>wpL P ops sl K ({ dst:=d,op:=op,type:=ty,pos:=p,after:=af,guard:=none } :: rest) s) (fun s=>wpL P ops sl K rest (s.put d (.tup []))):=rfl
@[congr] theorem Z3F {ops : Array Oper} {sl : Sl} {l : List Oper} {s s' : St} (h : s = s') : wpL P ops sl K l s = wpL P ops sl K l s':=by rw [h]
@[congr] theorem Z5w {d d' : Option Tmp} {want : Bool} {s s' : St} {yes no : St → Prop} (h : d = d') (hs : s = s') : gdA d want s yes no = gdA d' want s' yes no:=by rw [h,hs]
@[congr] theorem Z5v {v v' : V} {t : Tmp} {want : Bool} {s s' : St} {yes no : St → Prop} {d : Tr (yes,no)} (h : v = v') (hs : s = s') : gdB v t want s yes no d = gdB v' t want s' yes no d:=by rw [h,hs]
@[go_sem ↓] theorem Z7G {t : Tmp} {want : Bool} {yes no : St → Prop} : gdA (some t) want s yes no = gdB (s.get t) t want s yes no .mk:=by
 unfold gdA gdB
 simp only [Option.some.injEq,exists_and_left,exists_eq_left']
section
variable {t : Tmp} {yes no : St → Prop} {d : Tr (yes,no)}
@[go_sem high] theorem J2j {want : Bool} : gdB (.tup []) t want s yes no d = no s:=by simp [gdB]
@[go_sem high] theorem J2h : gdB (.lit (.bool true)) t true s yes no d = yes (s.put (some t) (.lit (.bool true))):=by simp [gdB]
@[go_sem high] theorem J2l : gdB (.lit (.bool false)) t false s yes no d = yes (s.put (some t) (.lit (.bool false))):=by simp [gdB]
@[go_sem high] theorem J2i : gdB (.lit (.bool true)) t false s yes no d = no (s.put (some t) (.lit (.bool true))):=by simp [gdB]
@[go_sem high] theorem J2k : gdB (.lit (.bool false)) t true s yes no d = no (s.put (some t) (.lit (.bool false))):=by simp [gdB]
@[go_sem] theorem Z5t {p : Prop} [Decidable p] : gdB (.lit (.bool (decide p))) t true s yes no d =
  ((p → yes (s.put (some t) (.lit (.bool true)))) ∧ (¬ p → no (s.put (some t) (.lit (.bool false))))):=by
 by_cases h : p <;> simp [gdB,h]
@[go_sem] theorem Z5u {p : Prop} [Decidable p] : gdB (.lit (.bool (decide p))) t false s yes no d =
  ((¬ p → yes (s.put (some t) (.lit (.bool false)))) ∧ (p → no (s.put (some t) (.lit (.bool true))))):=by
 by_cases h : p <;> simp [gdB,h]
@[go_sem low] theorem Z5s {b : Bool} : gdB (.lit (.bool b)) t true s yes no d =
  ((b = true → yes (s.put (some t) (.lit (.bool true)))) ∧ (b = false → no (s.put (some t) (.lit (.bool false))))):=by
 simp only [gdB,V.lit.injEq,Value.bool.injEq,exists_eq_left',Bool.not_true,reduceCtorEq,false_and,or_false]
end
@[go_sem ↓] theorem Z8r {ops : Array Oper} {tm : List (Nat × V)} {hp : List Ob} : wpM P ops K [] ⟨tm,hp⟩ = K ⟨tm,hp⟩:=(rfl)
@[go_sem ↓] theorem Z6h {ops : Array Oper} {d : Option Tmp} {op : Op} {ty : TypeId} {p : String} {af : Array Edge} {rest : List Oper} {tm : List (Nat × V)} {hp : List Ob} :
  wpM P ops K ({ dst:=d,op:=op,type:=ty,pos:=p,after:=af,guard:=none } :: rest) ⟨tm,hp⟩ =
   wpG P op (St.ev ⟨tm,hp⟩) hp (fun v H=>gate v H (fun v H=>wpM P ops K rest (St.upd ⟨tm,hp⟩ d v H)) .mk):=rfl
@[go_sem ↓] theorem J1h {ops : Array Oper} {d : Option Tmp} {op : Op} {ty : TypeId} {p : String} {af : Array Edge} {rest : List Oper} {j : Nat} {want : Bool} {tm : List (Nat × V)} {hp : List Ob} :
  wpM P ops K ({ dst:=d,op:=op,type:=ty,pos:=p,after:=af,guard:=some (j,want) } :: rest) ⟨tm,hp⟩ =
   gdA ((ops[j]?).bind (·.dst)) want ⟨tm,hp⟩ (fun s=>wpM P ops K ({ dst:=d,op:=op,type:=ty,pos:=p,after:=af,guard:=none } :: rest) s) (fun s=>wpM P ops K rest (s.put d (.tup []))):=rfl
@[congr] theorem Z3E {ops : Array Oper} {l : List Oper} {s s' : St} (h : s = s') : wpM P ops K l s = wpM P ops K l s':=by rw [h]
section
variable {ρ : Operand → V} {K : V → List Ob → Prop}
@[go_sem ↓] theorem Z8v {t : TypeId} {len : Nat} {l : List (Nat × Operand)} : wpG P (.buildSlice t len l.toArray) ρ H K = bslO P t len (l.map fun p=>(p.1,ρ p.2)) H K:=(rfl)
@[go_sem ↓] theorem J1k {t : TypeId} {x y : Operand} : wpG P (.store t x y) ρ H K = wpV P (.store t x y) ρ H K:=(rfl)
@[go_sem ↓] theorem Z6k {x : Operand} : wpG P (.move x) ρ H K = wpV P (.move x) ρ H K:=(rfl)
@[go_sem ↓] theorem Z2n {x : Operand} : wpG P (.assign x) ρ H K = wpV P (.assign x) ρ H K:=(rfl)
@[go_sem ↓] theorem Z6l {t : TypeId} {x : Operand} : wpG P (.load t x) ρ H K = wpV P (.load t x) ρ H K:=(rfl)
@[go_sem ↓] theorem Z6j {x : Operand} : wpG P (.nilCheck x) ρ H K = wpV P (.nilCheck x) ρ H K:=(rfl)
@[go_sem ↓] theorem J1j {b : UnOp} {t : TypeId} {x : Operand} : wpG P (.unOp b t x) ρ H K = wpV P (.unOp b t x) ρ H K:=(rfl)
@[go_sem ↓] theorem J1m {t : TypeId} {x : Operand} {f : Nat} : wpG P (.fieldAddr t x f) ρ H K = wpV P (.fieldAddr t x f) ρ H K:=(rfl)
@[go_sem ↓] theorem J1l {t : TypeId} {x i : Operand} : wpG P (.indexAddr t x i) ρ H K = wpV P (.indexAddr t x i) ρ H K:=(rfl)
@[go_sem ↓] theorem Z3G {t : TypeId} {x : Operand} {a b c : Option Operand} : wpG P (.slice t x a b c) ρ H K = wpV P (.slice t x a b c) ρ H K:=(rfl)
@[go_sem ↓] theorem Z0Q {x y : Operand} {t : TypeId} : wpG P (.call { callee:=.builtin .append,args:=#[x,y],argTypes:=#[t,t] }) ρ H K = appM P t (ρ x) (ρ y) H K:=by
 show ((∃ x' y' t',#[x,y] = #[x',y'] ∧ #[t,t] = #[t',t'] ∧ appM P t' (ρ x') (ρ y') H K) ∨ ∃ x' y' t' tn',#[x,y] = #[x',y'] ∧ #[t,t] = #[t',tn'] ∧ appZ P t' tn' (ρ x') (ρ y') H K) = _
 apply propext; constructor
 ·rintro (⟨x',y',t',e1,e2,h⟩ | ⟨x',y',t',tn',e1,e2,h⟩)
  ·simp at e1 e2
   obtain ⟨rfl,rfl⟩:=e1
   subst e2; exact h
  ·simp at e1 e2
   obtain ⟨rfl,rfl⟩:=e1
   obtain ⟨rfl,rfl⟩:=e2
   exact (Y8Q h).elim
 ·intro h; exact .inl ⟨x,y,t,rfl,rfl,h⟩
@[go_sem ↓] theorem Z0P {x y : Operand} {t tn : TypeId} : wpG P (.call { callee:=.builtin .append,args:=#[x,y],argTypes:=#[t,tn] }) ρ H K = ((t = tn ∧ appM P t (ρ x) (ρ y) H K) ∨ appZ P t tn (ρ x) (ρ y) H K):=by
 show ((∃ x' y' t',#[x,y] = #[x',y'] ∧ #[t,tn] = #[t',t'] ∧ appM P t' (ρ x') (ρ y') H K) ∨ ∃ x' y' t' tn',#[x,y] = #[x',y'] ∧ #[t,tn] = #[t',tn'] ∧ appZ P t' tn' (ρ x') (ρ y') H K) = _
 apply propext; constructor
 ·rintro (⟨x',y',t',e1,e2,h⟩ | ⟨x',y',t',tn',e1,e2,h⟩)
  ·simp at e1 e2
   obtain ⟨rfl,rfl⟩:=e1
   obtain ⟨rfl,rfl⟩:=e2
   exact .inl ⟨rfl,h⟩
  ·simp at e1 e2
   obtain ⟨rfl,rfl⟩:=e1
   obtain ⟨rfl,rfl⟩:=e2
   exact .inr h
 ·rintro (⟨rfl,h⟩ | h)
  ·exact .inl ⟨x,y,t,rfl,rfl,h⟩
  ·exact .inr ⟨x,y,t,tn,rfl,rfl,h⟩
end
section
variable {K : V → List Ob → Prop}
@[go_sem ↓] theorem Z8t {x y : Operand} {t t2 : TypeId} : wpG P (.call { callee:=.builtin .copy,args:=#[x,y],argTypes:=#[t,t2] }) ρ H K = cpyC P t (ρ x) (ρ y) H K:=by
 apply propext; constructor
 ·rintro ⟨x',y',t',t2',h1,h2,h⟩
  simp at h1 h2
  obtain ⟨rfl,rfl⟩:=h1
  obtain ⟨rfl,rfl⟩:=h2
  exact h
 ·exact fun h=>⟨_,_,_,_,rfl,rfl,h⟩
@[go_sem ↓] theorem Z8u {x : Operand} {t : TypeId} : wpG P (.call { callee:=.builtin .clear,args:=#[x],argTypes:=#[t] }) ρ H K = clrC P t (ρ x) H K:=by
 apply propext; constructor
 ·rintro ⟨x',t',h1,h2,h⟩
  simp at h1 h2
  subst h1; subst h2
  exact h
 ·exact fun h=>⟨_,_,rfl,rfl,h⟩
@[congr] theorem Z3h {t : TypeId} {v v' u u' : V} {H H' : List Ob} {K : V → List Ob → Prop} (h1 : v = v') (h2 : u = u') (h3 : H = H') : cpyC P t v u H K = cpyC P t v' u' H' K:=by rw [h1,h2,h3]
@[congr] theorem Z3j {t : TypeId} {v v' : V} {H H' : List Ob} {K : V → List Ob → Prop} (h1 : v = v') (h3 : H = H') : clrC P t v H K = clrC P t v' H' K:=by rw [h1,h3]
@[congr] theorem Z2K {t : TypeId} {v v' u u' x x' : V} {H H' : List Ob} {K : V → List Ob → Prop} (h1 : v = v') (h2 : u = u') (h3 : x = x') (h4 : H = H') : mupC P t v u x H K = mupC P t v' u' x' H' K:=by rw [h1,h2,h3,h4]
@[congr] theorem Z2O {t : TypeId} {v v' u u' : V} {H H' : List Ob} {K : V → List Ob → Prop} (h1 : v = v') (h2 : u = u') (h4 : H = H') : mlkC P t v u H K = mlkC P t v' u' H' K:=by rw [h1,h2,h4]
def mupD (P : Program) (o : Option (TypeId × TypeId)) (ob : Option Ob) (kk : IntKind) (n : Int) (x : V) (K : Ob → Prop) : Prop :=
 ∃ ke e q ob',o = some (ke,e) ∧ tint P ke = some q ∧ q = kk ∧ ob = some ob' ∧ ob'.st = .mp ∧ mpGet kk n ob'.cs = some none ∧ K { ob' with cs:=ob'.cs ++ [.lit (.int kk n),x] }
def mupE (q : Option IntKind) (kk : IntKind) (p : Prop) : Prop:=q = some kk ∧ p
@[congr] theorem Z2I {q q' : Option IntKind} {kk : IntKind} {p : Prop} (h : q = q') : mupE q kk p = mupE q' kk p:=by rw [h]
@[congr] theorem Z2J {o o' : Option (TypeId × TypeId)} {ob ob' : Option Ob} {kk : IntKind} {n : Int} {x : V} {K : Ob → Prop} (h : o = o') (h2 : ob = ob') : mupD P o ob kk n x K = mupD P o' ob' kk n x K:=by rw [h,h2]
def mpY (g : Option (Option V)) (z : Bool) (H : List Ob) (K : V → List Ob → Prop) (_ : Tr K) : Prop :=
 (∃ v,g = some (some v) ∧ v.nu ∧ K (.tup [v,.lit (.bool true)]) H) ∨ (g = some none ∧ z = true ∧ K (.tup [.any,.lit (.bool false)]) H)
@[congr] theorem Z4X {g g' : Option (Option V)} {z z' : Bool} {H H' : List Ob} {K : V → List Ob → Prop} {d : Tr K} (h : g = g') (h2 : z = z') (h3 : H = H') : mpY g z H K d = mpY g' z' H' K d:=by rw [h,h2,h3]
def mlkD (P : Program) (o : Option (TypeId × TypeId)) (ob : Option Ob) (kk : IntKind) (n : Int) (H : List Ob) (K : V → List Ob → Prop) (_ : Tr K) : Prop :=
 ∃ ke e ob',o = some (ke,e) ∧ tint P ke = some kk ∧ ob = some ob' ∧ ob'.st = .mp ∧ mpY (mpGet kk n ob'.cs) (tzer P e).isSome H K .mk
@[congr] theorem Z2N {o o' : Option (TypeId × TypeId)} {ob ob' : Option Ob} {kk : IntKind} {n : Int} {H : List Ob} {K : V → List Ob → Prop} {d : Tr K} (h : o = o') (h2 : ob = ob') : mlkD P o ob kk n H K d = mlkD P o' ob' kk n H K d:=by rw [h,h2]
attribute [go_sem] Option.isSome_some
end
@[congr] theorem Z3H {op : Op} {ρ : Operand → V} {K : V → List Ob → Prop} {H H' : List Ob} (h : H = H') : wpG P op ρ H K = wpG P op ρ H' K:=by rw [h]
@[go_sem ↓] theorem Z4d {P : Program} {n : Option Nat} {op : Op} {ρ : Operand → V} {H : List Ob} {K : V → List Ob → Prop} : sepS True n P op ρ H K = wpS P n op ρ H K:=by simp [sepS]
@[congr] theorem Z2u {p p' : Prop} {n n' : Option Nat} {op : Op} {ρ : Operand → V} {H : List Ob} {K : V → List Ob → Prop} (h : p = p') (h2 : n = n') : sepS p n P op ρ H K = sepS p' n' P op ρ H K:=by rw [h,h2]
@[go_sem ↓] theorem Z6B {op : Op} : sepO [] op s = True:=by unfold sepO; split <;> rfl
@[go_sem ↓] theorem Z2v {t : TypeId} {x y : Operand} {u : Nat} {lt : List Nat} : sepO (u :: lt) (.store t x y) s = sepC (s.ev x) s (u :: lt):=(rfl)
@[go_sem ↓] theorem Z6F {v : V} : sepC v s [] = True:=(rfl)
@[go_sem ↓] theorem Z4j {v : V} {t : Nat} {ts : List Nat} : sepC v s (t :: ts) = (nre v (s.get t) ∧ sepC v s ts):=(rfl)
@[congr] theorem Z3D {n n' : Option Nat} {op : Op} {ρ : Operand → V} {K : V → List Ob → Prop} (h : n = n') : wpS P n op ρ H K = wpS P n' op ρ H K:=by rw [h]
@[go_sem ↓] theorem Z9e {op : Op} {d : Option Tmp} : slt [] op d = none:=by unfold slt; split <;> cases d <;> rfl
@[go_sem ↓] theorem Z3Z {p : Nat × Nat} {sl : List (Nat × Nat)} {t : TypeId} {d : Nat} : slt (p :: sl) (.alloc t) (some d) = List.lookup d (p :: sl):=(rfl)
@[go_sem ↓] theorem Z6v {p : Nat × Nat} {sl : List (Nat × Nat)} {t : TypeId} {x y : Operand} {d : Nat} : slt (p :: sl) (.makeSlice t x y) (some d) = List.lookup d (p :: sl):=(rfl)
@[go_sem ↓] theorem Z6u {p : Nat × Nat} {sl : List (Nat × Nat)} {x : Operand} {d : Option Tmp} : slt (p :: sl) (.move x) d = none:=(rfl)
@[go_sem ↓] theorem Z2s {p : Nat × Nat} {sl : List (Nat × Nat)} {x : Operand} {d : Option Tmp} : slt (p :: sl) (.assign x) d = none:=(rfl)
@[go_sem ↓] theorem Z3Y {p : Nat × Nat} {sl : List (Nat × Nat)} {t : TypeId} {x : Array (Nat × Operand)} {d : Option Tmp} : slt (p :: sl) (.build t x) d = none:=(rfl)
@[go_sem ↓] theorem Z6w {p : Nat × Nat} {sl : List (Nat × Nat)} {t : TypeId} {x : Operand} {d : Option Tmp} : slt (p :: sl) (.load t x) d = none:=(rfl)
@[go_sem ↓] theorem Z6t {p : Nat × Nat} {sl : List (Nat × Nat)} {x : Operand} {d : Option Tmp} : slt (p :: sl) (.nilCheck x) d = none:=(rfl)
@[go_sem ↓] theorem Z9i {p : Nat × Nat} {sl : List (Nat × Nat)} {b : BinOp} {t u : TypeId} {x y : Operand} {d : Option Tmp} : slt (p :: sl) (.binOp b t x y u) d = none:=(rfl)
@[go_sem ↓] theorem J1t {p : Nat × Nat} {sl : List (Nat × Nat)} {t : TypeId} {x : Operand} {f : Nat} {d : Option Tmp} : slt (p :: sl) (.fieldAddr t x f) d = none:=(rfl)
@[go_sem ↓] theorem J1s {p : Nat × Nat} {sl : List (Nat × Nat)} {t : TypeId} {x i : Operand} {d : Option Tmp} : slt (p :: sl) (.indexAddr t x i) d = none:=(rfl)
@[go_sem ↓] theorem Z6x {p : Nat × Nat} {sl : List (Nat × Nat)} {f : Operand} {a : Array Operand} {ts : Array TypeId} {d : Option Tmp} : slt (p :: sl) (.call { callee:=.value f,args:=a,argTypes:=ts }) d = none:=(rfl)
@[go_sem ↓] theorem Z9f {p : Nat × Nat} {sl : List (Nat × Nat)} {a : Array Operand} {ts : Array TypeId} {d : Option Tmp} : slt (p :: sl) (.call { callee:=.builtin .len,args:=a,argTypes:=ts }) d = none:=(rfl)
@[go_sem ↓] theorem Z9j {p : Nat × Nat} {sl : List (Nat × Nat)} {a : Array Operand} {ts : Array TypeId} {d : Nat} : slt (p :: sl) (.call { callee:=.builtin .append,args:=a,argTypes:=ts }) (some d) = List.lookup d (p :: sl):=(rfl)
@[go_sem ↓] theorem Z3X {p : Nat × Nat} {sl : List (Nat × Nat)} {t : TypeId} {x y : Operand} {d : Option Tmp} : slt (p :: sl) (.store t x y) d = none:=(rfl)
@[go_sem ↓] theorem Z9h {p : Nat × Nat} {sl : List (Nat × Nat)} {t : TypeId} {x : Operand} {d : Option Tmp} : slt (p :: sl) (.box t x) d = none:=(rfl)
@[go_sem ↓] theorem Z9g {p : Nat × Nat} {sl : List (Nat × Nat)} {t : TypeId} {n : Nat} {x : Array (Nat × Operand)} {d : Option Tmp} : slt (p :: sl) (.buildSlice t n x) d = none:=(rfl)
attribute [go_sem ↓] Q9P X2B
@[go_sem ↓] theorem Z1z {tm : List (Nat × Nat)} {t u v : Nat} : List.lookup t ((u,v) :: tm) = if t = u then some v else List.lookup t tm:=by
 rw [List.lookup_cons]
 by_cases e : t = u
 ·subst e; simp
 ·have : (t == u) = false:=by simpa using e
  simp [this,e]
@[go_sem ↓] theorem Y8W {t : Nat} : List.lookup t ([] : List (Nat × (List Nat × List Nat × List Nat))) = none:=(rfl)
@[go_sem ↓] theorem Z2Q {tm : List (Nat × (List Nat × List Nat × List Nat))} {t u : Nat} {v : List Nat × List Nat × List Nat} : List.lookup t ((u,v) :: tm) = if t = u then some v else List.lookup t tm:=by
 rw [List.lookup_cons]
 by_cases e : t = u
 ·subst e; simp
 ·have : (t == u) = false:=by simpa using e
  simp [this,e]
@[go_sem ↓] theorem Z6p {tm : List (Nat × V)} {hp : List Ob} {d : Nat} {v : V} : St.upd ⟨tm,hp⟩ (some d) v H = ⟨(d,v) :: tm,H⟩:=(rfl)
@[go_sem ↓] theorem Z6q {tm : List (Nat × V)} {hp : List Ob} {v : V} : St.upd ⟨tm,hp⟩ none v H = ⟨tm,H⟩:=(rfl)
@[go_sem ↓] theorem Z6S {tm : List (Nat × V)} {hp : List Ob} {d : Nat} {v : V} : St.put ⟨tm,hp⟩ (some d) v = ⟨(d,v) :: tm,hp⟩:=(rfl)
@[go_sem ↓] theorem J0z {hp : List Ob} {t : Nat} : St.get ⟨[],hp⟩ t = .any:=(rfl)
@[go_sem ↓] theorem Z7F {tm : List (Nat × V)} {hp : List Ob} {t u : Nat} {v : V} : St.get ⟨(u,v) :: tm,hp⟩ t = if t = u then v else St.get ⟨tm,hp⟩ t:=by
 unfold St.get
 simp only [List.lookup_cons]
 by_cases e : t = u
 ·subst e; simp
 ·have : (t == u) = false:=by simpa using e
  simp [this,e]
@[go_sem ↓] theorem J2o {t : Tmp} : St.ev s (.tmp t) = s.get t:=(rfl)
@[go_sem ↓] theorem J0F {f : FuncId} : St.ev s (.func f) = .fn (.func f) [] []:=(rfl)
@[go_sem ↓] theorem J2r {k : IntKind} {n : Int} : St.ev s (.const (.int k n)) = .lit (.int k n):=(rfl)
@[go_sem ↓] theorem J0G {b : Bool} : St.ev s (.const (.bool b)) = .lit (.bool b):=(rfl)
@[go_sem ↓] theorem J2q : St.ev s (.const (.slice none 0 0)) = .emp:=(rfl)
@[go_sem ↓] theorem J2p {p : Option Addr} : St.ev s (.const (.pointer p)) = .lit (.pointer p):=(rfl)
def pr (tm : List (Nat × V)) (keep : List Nat) : List (Nat × V):=keep.filterMap fun t=>(tm.lookup t).map fun v=>(t,v)
def lk (o : Option V) (t : Nat) (r : List (Nat × V)) : List (Nat × V):=match o with
 | some v=>(t,v) :: r
 | none=>r
@[go_sem ↓] theorem Z6U {tm : List (Nat × V)} {hp : List Ob} {keep : List Nat} : St.prune keep ⟨tm,hp⟩ = ⟨pr tm keep,hp⟩:=(rfl)
@[go_sem ↓] theorem J1M {tm : List (Nat × V)} : pr tm [] = []:=(rfl)
@[go_sem ↓] theorem Z9I {tm : List (Nat × V)} {t : Nat} {keep : List Nat} : pr tm (t :: keep) = lk (tm.lookup t) t (pr tm keep):=by
 unfold pr lk
 rw [List.filterMap_cons]
 cases tm.lookup t <;> rfl
@[go_sem ↓] theorem J0a {v : V} {t : Nat} {r : List (Nat × V)} : lk (some v) t r = (t,v) :: r:=(rfl)
@[go_sem ↓] theorem J0b {t : Nat} {r : List (Nat × V)} : lk none t r = r:=(rfl)
@[go_sem ↓] theorem Z2R {t : Nat} : List.lookup t ([] : List (Nat × V)) = none:=(rfl)
@[go_sem ↓] theorem Z1B {tm : List (Nat × V)} {t u : Nat} {v : V} : List.lookup t ((u,v) :: tm) = if t = u then some v else List.lookup t tm:=by
 rw [List.lookup_cons]
 by_cases e : t = u
 ·subst e; simp
 ·have : (t == u) = false:=by simpa using e
  simp [this,e]
@[go_sem ↓] theorem Z1A {t : Nat} : List.lookup t ([] : List (Nat × List Nat)) = none:=(rfl)
@[go_sem ↓] theorem Z0s {tm : List (Nat × List Nat)} {t u : Nat} {v : List Nat} : List.lookup t ((u,v) :: tm) = if t = u then some v else List.lookup t tm:=by
 rw [List.lookup_cons]
 by_cases e : t = u
 ·subst e; simp
 ·have : (t == u) = false:=by simpa using e
  simp [this,e]
attribute [go_sem] Option.getD_some Option.getD_none Option.bind_some Option.bind_none List.getElem?_toArray List.getElem?_cons_zero List.getElem?_cons_succ
variable {K : V → List Ob → Prop}
def callS (P : Program) (f : V) (vs : List V) (H : List Ob) (K : V → List Ob → Prop) (_ : Tr K) : Prop:=callC P f vs H (fun v=>K v H) ∨ callO P f vs H K
@[congr] theorem Z3A {op : Op} : wpV P op ρ H K = wpV P op ρ H K:=rfl
@[go_sem ↓] theorem Z6e {x : Operand} : wpV P (.move x) ρ H K = K (ρ x) H:=(rfl)
@[go_sem ↓] theorem Z2m {x : Operand} : wpV P (.assign x) ρ H K = K (ρ x) H:=(rfl)
@[go_sem ↓] theorem Z6d {c x y : Operand} : wpV P (.pick c x y) ρ H K = pickC (ρ c) (ρ x) (ρ y) (fun v=>K v H):=(rfl)
@[go_sem ↓] theorem Z3B {t : TypeId} {l : List (Nat × Operand)} : wpV P (.build t l.toArray) ρ H K = bldC P t (l.map fun p=>(p.1,ρ p.2)) (fun v=>K v H):=(rfl)
@[go_sem ↓] theorem Z6f {t : TypeId} {x : Operand} : wpV P (.load t x) ρ H K = ldP P t (ρ x) H (fun v=>K v H):=(rfl)
@[go_sem ↓] theorem Z8k {x : Operand} : wpV P (.nilCheck x) ρ H K = nilC (ρ x) (fun v=>K v H):=(rfl)
@[go_sem ↓] theorem Z8p {b : BinOp} {t u : TypeId} {x y : Operand} : wpV P (.binOp b t x y u) ρ H K = binC P b t (ρ x) (nlO y (ρ y)) (fun v=>K v H):=(rfl)
@[congr] theorem Z4O {y : Operand} {v v' : V} (h : v = v') : nlO y v = nlO y v':=by rw [h]
@[go_sem ↓] theorem Z9Q {t : Tmp} {v : V} : nlO (.tmp t) v = v:=(rfl)
@[go_sem ↓] theorem Z9T {k : IntKind} {n : Int} {v : V} : nlO (.const (.int k n)) v = v:=(rfl)
@[go_sem ↓] theorem Z9R {b : Option Addr} {v : V} : nlO (.const (.pointer b)) v = v:=(rfl)
@[go_sem ↓] theorem Z9S {v : V} : nlO (.const (.slice none 0 0)) v = .lit (.slice none 0 0):=(rfl)
@[go_sem ↓] theorem J1a {b : UnOp} {t : TypeId} {x : Operand} : wpV P (.unOp b t x) ρ H K = unC b (ρ x) (fun v=>K v H):=(rfl)
@[go_sem ↓] theorem J1g {t u : TypeId} {x : Operand} : wpV P (.convert t u x) ρ H K = cvC P t u (ρ x) (fun v=>K v H):=(rfl)
@[go_sem ↓] theorem Z3z {t : TypeId} {x : Operand} {lo hi : Option Operand} : wpV P (.slice t x lo hi none) ρ H K = slcC P t (ρ x) (lo.map ρ) (hi.map ρ) (fun v=>K v H):=(rfl)
@[go_sem ↓] theorem J1e {t : TypeId} {x : Operand} {f : Nat} : wpV P (.fieldAddr t x f) ρ H K = faC P t (ρ x) f (fun v=>K v H):=(rfl)
@[go_sem ↓] theorem J1d {t : TypeId} {x i : Operand} : wpV P (.indexAddr t x i) ρ H K = iaC P t (ρ x) (ρ i) (fun v=>K v H):=(rfl)
@[go_sem ↓] theorem J1f {x : Operand} {i : Nat} : wpV P (.extract x i) ρ H K = exC (ρ x) i (fun v=>K v H):=(rfl)
@[go_sem ↓] theorem Z8l {x y : Operand} {t u : TypeId} : wpV P (.call { callee:=.builtin .min,args:=#[x,y],argTypes:=#[t,u] }) ρ H K = mmC mnI (ρ x) (ρ y) (fun v=>K v H):=by
 show (∃ x' y',#[x,y] = #[x',y'] ∧ mmC mnI (ρ x') (ρ y') (fun v=>K v H)) = _
 apply propext
 constructor
 ·rintro ⟨x',y',h,h2⟩
  simp only [Array.mk.injEq,List.cons.injEq,and_true] at h
  obtain ⟨rfl,rfl⟩:=h
  exact h2
 ·exact fun h=>⟨x,y,rfl,h⟩
@[go_sem ↓] theorem Z8m {x : Operand} {t : TypeId} : wpV P (.call { callee:=.builtin .len,args:=#[x],argTypes:=#[t] }) ρ H K = lenC P t (ρ x) (fun v=>K v H):=by
 show (∃ x' t',#[x] = #[x'] ∧ #[t] = #[t'] ∧ lenC P t' (ρ x') (fun v=>K v H)) = _
 apply propext
 constructor
 ·rintro ⟨x',t',h1,h2,h⟩
  obtain rfl : x = x':=by simpa using h1
  obtain rfl : t = t':=by simpa using h2
  exact h
 ·intro h; exact ⟨x,t,rfl,rfl,h⟩
@[go_sem ↓] theorem Z8q {x y : Operand} {t : TypeId} : wpV P (.call { callee:=.builtin .append,args:=#[x,y],argTypes:=#[t,t] }) ρ H K = appC P t (ρ x) (ρ y) H K:=by
 show (∃ x' y' t',#[x,y] = #[x',y'] ∧ #[t,t] = #[t',t'] ∧ appC P t' (ρ x') (ρ y') H K) = _
 apply propext
 constructor
 ·rintro ⟨x',y',t',h1,h2,h⟩
  obtain ⟨rfl,rfl⟩ : x = x' ∧ y = y':=by simpa using h1
  obtain rfl : t = t':=by simpa using h2
  exact h
 ·intro h; exact ⟨x,y,t,rfl,rfl,h⟩
def callGS (P : Program) (f : V) (vs : List V) (H : List Ob) (K : V → List Ob → Prop) (_ : Tr K) : Prop:=callG P f vs H K ∨ callI P f vs H K ∨ callS P f vs H K .mk
@[congr] theorem Z0L {f f' : V} {vs vs' : List V} {H H' : List Ob} {K : V → List Ob → Prop} {d : Tr K} (h1 : f = f') (h2 : vs = vs') (h3 : H = H') : callGS P f vs H K d = callGS P f' vs' H' K d:=by rw [h1,h2,h3]
@[go_sem ↓] theorem Z6m {f : Operand} {l : List Operand} {ts : Array TypeId} : wpG P (.call { callee:=.value f,args:=l.toArray,argTypes:=ts }) ρ H K = callGS P (ρ f) (l.map ρ) H K .mk:=(rfl)
@[go_sem ↓] theorem Z6g {f : Operand} {l : List Operand} {ts : Array TypeId} : wpV P (.call { callee:=.value f,args:=l.toArray,argTypes:=ts }) ρ H K = callS P (ρ f) (l.map ρ) H K .mk:=(rfl)
def alD (o : Option (List V)) (K : List V → Prop) : Prop:=∃ z,o = some z ∧ K z
@[congr] theorem Z5Y {o o' : Option (List V)} {K : List V → Prop} (h : o = o') : alD o K = alD o' K:=by rw [h]
@[go_sem ↓] theorem Z8i {z : List V} {K : List V → Prop} : alD (some z) K = K z:=by simp [alD]
@[go_sem ↓] theorem Z3C {t : TypeId} : wpV P (.alloc t) ρ H K = alD (tzer P t) fun z=>K (.ref H.length 0) (H ++ [⟨.own,t,z⟩]):=(rfl)
@[go_sem ↓] theorem Z8o {t : TypeId} {x : Operand} : wpV P (.box t x) ρ H K = alD (ρ x).cells fun cs=>K (.ref H.length 0) (H ++ [⟨.own,t,cs⟩]):=(rfl)
@[go_sem ↓] theorem Z8n {t : TypeId} {len : Nat} {l : List (Nat × Operand)} : wpV P (.buildSlice t len l.toArray) ρ H K = bslC P t len (l.map fun p=>(p.1,ρ p.2)) H K:=(rfl)
@[go_sem ↓] theorem J1c {t : TypeId} {l c : Operand} : wpV P (.makeSlice t l c) ρ H K = mkC P t (ρ l) (ρ c) (fun e sz n cs=>K (.rsl H.length sz 0 n) (H ++ [⟨.own,e,cs⟩])):=(rfl)
@[go_sem ↓] theorem J1b {t : TypeId} {x y : Operand} : wpV P (.store t x y) ρ H K = stC P t (ρ x) (ρ y) H K:=(rfl)
@[congr] theorem Z2f {f f' : V} {vs vs' : List V} {H H' : List Ob} {d : Tr K} (h1 : f = f') (h2 : vs = vs') (h3 : H = H') : callS P f vs H K d = callS P f' vs' H' K d:=by rw [h1,h2,h3]
end
section
variable {P : Program} {K : V → Prop} {KH : V → List Ob → Prop} {H : List Ob}
@[congr] theorem Z1r {c c' x x' y y' : V} (h1 : c = c') (h2 : x = x') (h3 : y = y') : pickC c x y K = pickC c' x' y' K:=by rw [h1,h2,h3]
@[go_sem ↓] theorem Z4F {b : Bool} {x y : V} : pickC (.lit (.bool b)) x y K = K (V.ite b x y):=by
 simp only [pickC,V.lit.injEq,Value.bool.injEq,exists_eq_left']
@[go_sem ↓ high] theorem Z3L {x y : V} : V.ite true x y = x:=(rfl)
@[go_sem ↓ high] theorem Z2o {x y : V} : V.ite false x y = y:=(rfl)
@[congr] theorem Z2H {v v' : V} (h : v = v') : nilC v K = nilC v' K:=by rw [h]
@[go_sem ↓] theorem Z6Y {f : Fl} {cs : List V} : nilC (.ptr f cs) K = K (.ptr f cs):=(rfl)
@[go_sem ↓] theorem Z6X {id off : Nat} : nilC (.ref id off) K = K (.ref id off):=(rfl)
def ibinC (op : BinOp) (k : IntKind) (x y : Int) (K : Value → Prop) : Prop:=∃ r,ibin op k x y = some r ∧ K r
@[congr] theorem Z1J {op : BinOp} {k : IntKind} {x y x' y' : Int} {K : Value → Prop} (h1 : x = x') (h2 : y = y') : ibinC op k x y K = ibinC op k x' y' K:=by rw [h1,h2]
section
variable {k : IntKind} {x y : Int} {K : Value → Prop}
@[go_sem ↓] theorem Z7y : ibinC .add k x y K = K (.int k (k.wrap (x + y))):=by simp only [ibinC,ibin,Option.some.injEq,exists_eq_left']
@[go_sem ↓] theorem Z7o : ibinC .sub k x y K = K (.int k (k.wrap (x - y))):=by simp only [ibinC,ibin,Option.some.injEq,exists_eq_left']
@[go_sem ↓] theorem Z7s : ibinC .mul k x y K = K (.int k (k.wrap (x * y))):=by simp only [ibinC,ibin,Option.some.injEq,exists_eq_left']
@[go_sem ↓] theorem Z7q : ibinC .quo k x y K = (y ≠ 0 ∧ K (.int k (k.wrap (x.tdiv y)))):=by
 unfold ibinC ibin
 by_cases h : y = 0 <;> simp [h]
@[go_sem ↓] theorem Z7p : ibinC .rem k x y K = (y ≠ 0 ∧ K (.int k (x.tmod y))):=by
 unfold ibinC ibin
 by_cases h : y = 0 <;> simp [h]
@[go_sem ↓] theorem Z7x : ibinC .eql k x y K = K (.bool (decide (x = y))):=by simp only [ibinC,ibin,Option.some.injEq,exists_eq_left']
@[go_sem ↓] theorem Z7r : ibinC .neq k x y K = K (.bool (decide (x ≠ y))):=by simp only [ibinC,ibin,Option.some.injEq,exists_eq_left']
@[go_sem ↓] theorem Z7t : ibinC .lss k x y K = K (.bool (decide (x < y))):=by simp only [ibinC,ibin,Option.some.injEq,exists_eq_left']
@[go_sem ↓] theorem Z7u : ibinC .leq k x y K = K (.bool (decide (x ≤ y))):=by simp only [ibinC,ibin,Option.some.injEq,exists_eq_left']
@[go_sem ↓] theorem Z7v : ibinC .gtr k x y K = K (.bool (decide (y < x))):=by simp only [ibinC,ibin,Option.some.injEq,exists_eq_left']
@[go_sem ↓] theorem Z7w : ibinC .geq k x y K = K (.bool (decide (y ≤ x))):=by simp only [ibinC,ibin,Option.some.injEq,exists_eq_left']
end
@[congr] theorem Z3r {op : BinOp} {t : TypeId} {v v' u u' : V} (h1 : v = v') (h2 : u = u') : binC P op t v u K = binC P op t v' u' K:=by rw [h1,h2]
@[go_sem ↓] theorem Z7X {op : BinOp} {t : TypeId} {k : IntKind} {x y : Int} : binC P op t (.lit (.int k x)) (.lit (.int k y)) K = ibinC op k x y (fun r=>K (.lit r)):=by
 simp only [binC,ibinC,true_and,ne_eq,not_true_eq_false,false_and,or_false]
@[go_sem ↓] theorem Z0a {t : TypeId} {x y : Bool} : binC P .eql t (.lit (.bool x)) (.lit (.bool y)) K = (tbool P t = true ∧ K (.lit (.bool (x == y)))):=by simp [binC]
@[go_sem ↓] theorem Y9Z {t : TypeId} {x y : Bool} : binC P .neq t (.lit (.bool x)) (.lit (.bool y)) K = (tbool P t = true ∧ K (.lit (.bool (x != y)))):=by simp [binC]
@[go_sem ↓] theorem Y2R {t : TypeId} {f : Fl} {cs : List V} : binC P .eql t (.ptr f cs) (.lit (.pointer none)) K = (tptr P t = true ∧ K (.lit (.bool false))):=by simp [binC]
@[go_sem ↓] theorem Y2S {t : TypeId} : binC P .eql t (.lit (.pointer none)) (.lit (.pointer none)) K = (tptr P t = true ∧ K (.lit (.bool true))):=by simp [binC]
@[go_sem ↓] theorem Y9Y {t : TypeId} {b : Option Addr} {n c : Nat} : binC P .eql t (.lit (.slice b n c)) (.lit (.slice none 0 0)) K = ((tsl P t).isSome = true ∧ K (.lit (.bool b.isNone))):=by simp [binC]
@[go_sem ↓] theorem Z2g {t : TypeId} {f : Fl} {sz n : Nat} {cs : List V} : binC P .eql t (.sl f sz n cs) (.lit (.slice none 0 0)) K = (((tsl P t).isSome = true ∧ 0 < n) ∧ K (.lit (.bool false))):=by simp [binC]
@[congr] theorem Z3M {op : UnOp} {v v' : V} (h : v = v') : unC op v K = unC op v' K:=by rw [h]
@[go_sem ↓] theorem Z8x {b : Bool} : unC .not (.lit (.bool b)) K = K (.lit (.bool (!b))):=(rfl)
@[go_sem ↓] theorem Z8y {k : IntKind} {n : Int} : unC .neg (.lit (.int k n)) K = K (.lit (.int k (k.wrap (-n)))):=(rfl)
@[congr] theorem Z5I {a b : TypeId} {v v' : V} (h : v = v') : cvC P a b v K = cvC P a b v' K:=by rw [h]
@[go_sem ↓] theorem J0I {a b : TypeId} {k : IntKind} {n : Int} : cvC P a b (.lit (.int k n)) K = ((tint P a).isSome = true ∧ ∃ k1,tint P b = some k1 ∧ K (.lit (.int k1 (k1.wrap n)))):=by
 unfold cvC
 cases h : tint P a <;> simp
def hdC (o : Option V) (K : V → Prop) (_ : Tr K) : Prop:=∃ c,o = some c ∧ K c
def ldD (n : Option Nat) (a : Option Bool) (cs : List V) (K : V → Prop) : Prop :=
 ∃ m,n = some m ∧ 0 < m ∧ m ≤ cs.length ∧ ((a = some true ∧ K (.agg (cs.take m))) ∨ (a = some false ∧ hdC cs[0]? K .mk))
@[congr] theorem Z5p {o o' : Option V} {d : Tr K} (h : o = o') : hdC o K d = hdC o' K d:=by rw [h]
@[go_sem ↓] theorem Z7E {c : V} {d : Tr K} : hdC (some c) K d = K c:=by simp only [hdC,Option.some.injEq,exists_eq_left']
@[congr] theorem Z5g {n n' : Option Nat} {a a' : Option Bool} {cs cs' : List V} (h1 : n = n') (h2 : a = a') (h3 : cs = cs') : ldD n a cs K = ldD n' a' cs' K:=by rw [h1,h2,h3]
@[go_sem ↓] theorem J0p {m : Nat} {cs : List V} : ldD (some m) (some true) cs K = (0 < m ∧ m ≤ cs.length ∧ K (.agg (cs.take m))):=by simp [ldD]
@[go_sem ↓] theorem J0o {m : Nat} {cs : List V} : ldD (some m) (some false) cs K = (0 < m ∧ m ≤ cs.length ∧ hdC cs[0]? K .mk):=by simp [ldD]
@[go_sem ↓] theorem J2f {t : TypeId} {cs : List V} : ldC P t cs K = ldD (tsz P t) (tagg P t) cs K:=(rfl)
def ldO (P : Program) (t : TypeId) (o : Option Ob) (off : Nat) (K : V → Prop) : Prop :=
 ∃ ob,o = some ob ∧ (ob.st = .own ∨ ob.st = .frz) ∧ (∀ n,tsz P t = some n → ∀ c ∈ (ob.cs.drop off).take n,c.nu) ∧ ldC P t (ob.cs.drop off) K
@[congr] theorem Z5f {t : TypeId} {o o' : Option Ob} {off off' : Nat} (h : o = o') (h2 : off = off') : ldO P t o off K = ldO P t o' off' K:=by rw [h,h2]
@[go_sem ↓] theorem J0m {t ty : TypeId} {cs : List V} {off : Nat} : ldO P t (some ⟨.own,ty,cs⟩) off K = ((∀ n,tsz P t = some n → ∀ c ∈ (cs.drop off).take n,c.nu) ∧ ldC P t (cs.drop off) K):=by simp [ldO]
@[go_sem ↓] theorem J0n {t ty : TypeId} {cs : List V} {off : Nat} : ldO P t (some ⟨.frz,ty,cs⟩) off K = ((∀ n,tsz P t = some n → ∀ c ∈ (cs.drop off).take n,c.nu) ∧ ldC P t (cs.drop off) K):=by simp [ldO]
@[congr] theorem Z5e {t : TypeId} {v v' : V} {H H' : List Ob} (h : v = v') (h2 : H = H') : ldP P t v H K = ldP P t v' H' K:=by rw [h,h2]
@[go_sem ↓] theorem J0l {t : TypeId} {f : Fl} {cs : List V} : ldP P t (.ptr f cs) H K = ldC P t cs K:=(rfl)
@[go_sem ↓] theorem J0k {t : TypeId} {id off : Nat} : ldP P t (.ref id off) H K = ldO P t H[id]? off K:=(rfl)
def faD (fl : Option (Nat × Nat × Bool)) (v : V) (K : V → Prop) : Prop :=
 ∃ off sz a,fl = some (off,sz,a) ∧ sz ≠ 0 ∧ match v with
  | .ptr g cs=>off ≤ cs.length ∧ K (.ptr g (cs.drop off))
  | .ref id o=>K (.ref id (o + off))
  | _=>False
@[congr] theorem Z5C {fl fl' : Option (Nat × Nat × Bool)} {v v' : V} (h : fl = fl') (h2 : v = v') : faD fl v K = faD fl' v' K:=by rw [h,h2]
@[go_sem ↓] theorem J2n {t : TypeId} {v : V} {f : Nat} : faC P t v f K = faD (tfld P t f) v K:=(rfl)
@[go_sem ↓] theorem J0D {off sz : Nat} {a : Bool} {g : Fl} {cs : List V} : faD (some (off,sz,a)) (.ptr g cs) K = (sz ≠ 0 ∧ off ≤ cs.length ∧ K (.ptr g (cs.drop off))):=by
 unfold faD; apply propext; constructor
 ·rintro ⟨o',s',a',h1,h2⟩
  simp only [Option.some.injEq,Prod.mk.injEq] at h1
  obtain ⟨rfl,rfl,rfl⟩:=h1; exact h2
 ·intro h; exact ⟨off,sz,a,rfl,h⟩
@[go_sem ↓] theorem J0C {off sz : Nat} {a : Bool} {id o : Nat} : faD (some (off,sz,a)) (.ref id o) K = (sz ≠ 0 ∧ K (.ref id (o + off))):=by
 unfold faD; apply propext; constructor
 ·rintro ⟨o',s',a',h1,h2⟩
  simp only [Option.some.injEq,Prod.mk.injEq] at h1
  obtain ⟨rfl,rfl,rfl⟩:=h1; exact h2
 ·intro h; exact ⟨off,sz,a,rfl,h⟩
def fdD (fl : Option (Nat × Nat × Bool)) (v : V) (K : V → Prop) : Prop :=
 ∃ off sz a,fl = some (off,sz,a) ∧ match v with
  | .agg vs=>(a = true ∧ off + sz ≤ vs.length ∧ K (.agg ((vs.drop off).take sz))) ∨ (a = false ∧ hdC vs[off]? K .mk)
  | _=>False
@[congr] theorem Z5B {fl fl' : Option (Nat × Nat × Bool)} {v v' : V} (h : fl = fl') (h2 : v = v') : fdD fl v K = fdD fl' v' K:=by rw [h,h2]
def slD (o : Option (TypeId × Nat)) (sz : Nat) : Prop:=∃ e,o = some (e,sz)
@[go_sem ↓] theorem Z6z {e sz sz' : Nat} : slD (some (e,sz)) sz' = (sz = sz'):=by simp [slD]
@[congr] theorem Z5k {t : TypeId} {v v' i i' : V} (h : v = v') (h2 : i = i') : iaC P t v i K = iaC P t v' i' K:=by rw [h,h2]
@[go_sem ↓] theorem J2g {t : TypeId} {f : Fl} {sz n : Nat} {cs : List V} {k : IntKind} {j : Int} : iaC P t (.sl f sz n cs) (.lit (.int k j)) K =
  (slD (tsl P t) sz ∧ 0 ≤ j ∧ j < n ∧ K (.ptr f (cs.drop (j.toNat * sz)))):=by
 unfold iaC slD
 apply propext
 constructor
 ·rintro ⟨k',j',h1,h2,e,h3,h4,h5⟩
  simp only [V.lit.injEq,Value.int.injEq] at h1
  obtain ⟨rfl,rfl⟩:=h1
  exact ⟨⟨e,h3⟩,h2,h4,h5⟩
 ·rintro ⟨⟨e,h3⟩,h2,h4,h5⟩
  exact ⟨k,j,rfl,h2,e,h3,h4,h5⟩
@[go_sem ↓] theorem J0v {t : TypeId} {id sz o n : Nat} {k : IntKind} {j : Int} : iaC P t (.rsl id sz o n) (.lit (.int k j)) K =
  (slD (tsl P t) sz ∧ 0 ≤ j ∧ j < n ∧ K (.ref id ((o + j.toNat) * sz))):=by
 unfold iaC slD
 apply propext
 constructor
 ·rintro ⟨k',j',h1,h2,e,h3,h4,h5⟩
  simp only [V.lit.injEq,Value.int.injEq] at h1
  obtain ⟨rfl,rfl⟩:=h1
  exact ⟨⟨e,h3⟩,h2,h4,h5⟩
 ·rintro ⟨⟨e,h3⟩,h2,h4,h5⟩
  exact ⟨k,j,rfl,h2,e,h3,h4,h5⟩
@[congr] theorem Z5i {t : TypeId} {v v' i i' : V} (h : v = v') (h2 : i = i') : ixC P t v i K = ixC P t v' i' K:=by rw [h,h2]
@[congr] theorem Z5D {v v' : V} {i : Nat} (h : v = v') : exC v i K = exC v' i K:=by rw [h]
@[go_sem ↓] theorem J0E {vs : List V} {i : Nat} : exC (.tup vs) i K = hdC vs[i]? K .mk:=(rfl)
@[congr] theorem Z4Y {m : Int → Int → Int} {v v' u u' : V} {K : V → Prop} (h : v = v') (h2 : u = u') : mmC m v u K = mmC m v' u' K:=by rw [h,h2]
@[go_sem ↓] theorem Z9X {m : Int → Int → Int} {k k' : IntKind} {a b : Int} {K : V → Prop} : mmC m (.lit (.int k a)) (.lit (.int k' b)) K = K (.lit (.int k (m a b))):=(rfl)
@[congr] theorem Z2S {t : TypeId} {v v' : V} (h : v = v') : lenC P t v K = lenC P t v' K:=by rw [h]
@[go_sem ↓] theorem J0c {t : TypeId} {f : Fl} {sz n : Nat} {cs : List V} : lenC P t (.sl f sz n cs) K = ((tsl P t).isSome = true ∧ K (.lit (.int .i64 n))):=(rfl)
@[go_sem ↓] theorem Z7h {t : TypeId} {id sz o n : Nat} : lenC P t (.rsl id sz o n) K = ((tsl P t).isSome = true ∧ K (.lit (.int .i64 n))):=(rfl)
attribute [go_sem] Option.isSome_some
section
variable {n : Nat} {K : Nat → Nat → Prop} {k k' : IntKind} {l h : Int}
@[go_sem ↓] theorem J0S : bndC n none (some (.lit (.int k h))) K = (0 ≤ h ∧ h ≤ n ∧ K 0 h.toNat):=by
 apply propext; constructor
 ·rintro ⟨l,h,h1,h2,h3,h4,h5,h6⟩
  rcases h1 with ⟨_,rfl⟩ | ⟨k,h1⟩ <;> rcases h2 with ⟨h2,_⟩ | ⟨k,h2⟩ <;> simp_all
 ·rintro ⟨h1,h2,h3⟩; exact ⟨0,h,.inl ⟨rfl,rfl⟩,.inr ⟨k,rfl⟩,by omega,by omega,by omega,by simpa using h3⟩
@[go_sem ↓] theorem J0R : bndC n (some (.lit (.int k l))) none K = (0 ≤ l ∧ l ≤ n ∧ K l.toNat n):=by
 apply propext; constructor
 ·rintro ⟨l,h,h1,h2,h3,h4,h5,h6⟩
  rcases h1 with ⟨h1,_⟩ | ⟨k,h1⟩ <;> rcases h2 with ⟨h2,rfl⟩ | ⟨k,h2⟩ <;> simp_all
 ·rintro ⟨h1,h2,h3⟩; exact ⟨l,n,.inr ⟨k,rfl⟩,.inl ⟨rfl,rfl⟩,by omega,by omega,by omega,by simpa using h3⟩
@[go_sem ↓] theorem J0Q : bndC n (some (.lit (.int k l))) (some (.lit (.int k' h))) K = (0 ≤ l ∧ l ≤ h ∧ h ≤ n ∧ K l.toNat h.toNat):=by
 apply propext; constructor
 ·rintro ⟨l,h,h1,h2,h3,h4,h5,h6⟩
  rcases h1 with ⟨h1,_⟩ | ⟨k,h1⟩ <;> rcases h2 with ⟨h2,_⟩ | ⟨k,h2⟩ <;> simp_all
 ·rintro ⟨h1,h2,h3,h4⟩; exact ⟨l,h,.inr ⟨k,rfl⟩,.inr ⟨k',rfl⟩,by omega,by omega,by omega,h4⟩
@[congr] theorem Z3p {lo lo' hi hi' : Option V} (h1 : lo = lo') (h2 : hi = hi') : bndC n lo hi K = bndC n lo' hi' K:=by rw [h1,h2]
end
@[congr] theorem Z2t {t : TypeId} {v v' : V} {lo lo' hi hi' : Option V} (h : v = v') (h1 : lo = lo') (h2 : hi = hi') : slcC P t v lo hi K = slcC P t v' lo' hi' K:=by rw [h,h1,h2]
@[go_sem ↓] theorem Z9k {t : TypeId} {f : Fl} {sz n : Nat} {cs : List V} {lo hi : Option V} : slcC P t (.sl f sz n cs) lo hi K =
  (slD (tsl P t) sz ∧ bndC n lo hi fun l h=>K (.sl f sz (h - l) ((cs.drop (l * sz)).take ((h - l) * sz)))):=by
 unfold slcC slD; simp only [exists_and_right]
theorem Y4u {t : TypeId} {id sz o n : Nat} {lo hi : Option V} : slcC P t (.rsl id sz o n) lo hi K =
  (slD (tsl P t) sz ∧ bndC n lo hi fun l h=>(l < h ∧ K (.rsl id sz (o + l) (h - l))) ∨ (l = h ∧ (lo.isSome = true ∨ o ≠ 0) ∧ K (.sl .s sz 0 [])) ∨ (l = h ∧ l = 0 ∧ o = 0 ∧ lo = none ∧ K (.rsl id sz 0 0))):=by
 unfold slcC slD; simp only [exists_and_right]
@[go_sem ↓] theorem Z4a {t : TypeId} {id sz o n : Nat} {v : V} {hi : Option V} : slcC P t (.rsl id sz o n) (some v) hi K =
  (slD (tsl P t) sz ∧ bndC n (some v) hi fun l h=>(l < h ∧ K (.rsl id sz (o + l) (h - l))) ∨ (l = h ∧ K (.sl .s sz 0 []))):=by
 rw [Y4u]; simp
@[go_sem ↓] theorem Z4b {t : TypeId} {id sz n : Nat} {hi : Option V} : slcC P t (.rsl id sz 0 n) none hi K =
  (slD (tsl P t) sz ∧ bndC n none hi fun l h=>K (.rsl id sz 0 h)):=by
 rw [Y4u]
 congr 1
 unfold bndC
 apply propext; constructor
 ·rintro ⟨l,h,h1,h2,h3,h4,h5,h6⟩
  refine ⟨l,h,h1,h2,h3,h4,h5, ?_⟩
  have h1 : l = 0:=by rcases h1 with ⟨_,h1⟩ | ⟨k,h1⟩; exact h1; cases h1
  subst h1
  rcases h6 with ⟨h6,h7⟩ | ⟨h6,h7,h8⟩ | ⟨h6,_,_,_,h7⟩
  ·simpa using h7
  ·rcases h7 with h7 | h7
   ·cases h7
   ·exact absurd rfl h7
  ·rw [← h6]; exact h7
 ·rintro ⟨l,h,h1,h2,h3,h4,h5,h6⟩
  refine ⟨l,h,h1,h2,h3,h4,h5, ?_⟩
  have h1 : l = 0:=by rcases h1 with ⟨_,h1⟩ | ⟨k,h1⟩; exact h1; cases h1
  subst h1
  by_cases e : 0 < h.toNat
  ·exact .inl ⟨e,by simpa using h6⟩
  ·have e : h.toNat = 0:=by omega
   rw [e] at h6 ⊢
   exact .inr (.inr ⟨rfl,rfl,rfl,rfl,h6⟩)
attribute [go_sem] Option.map_some Option.map_none List.map_cons List.map_nil
def fillD (pl : List (Nat × Nat)) (p : Option (Nat × Nat)) (cs : Option (List V)) (r : List (Nat × V)) (z : List V) (K : List V → Prop) : Prop :=
 ∃ off sz cs',p = some (off,sz) ∧ cs = some cs' ∧ cs'.length = sz ∧ off + sz ≤ z.length ∧ fillV pl r (z.take off ++ cs' ++ z.drop (off + sz)) K
section
variable {pl : List (Nat × Nat)} {K : List V → Prop}
@[congr] theorem Z1R {l l' : List (Nat × V)} {z z' : List V} (h : l = l') (h2 : z = z') : fillV pl l z K = fillV pl l' z' K:=by rw [h,h2]
@[congr] theorem Z1S {p p' : Option (Nat × Nat)} {cs cs' : Option (List V)} {r : List (Nat × V)} {z : List V} (h : p = p') (h2 : cs = cs') : fillD pl p cs r z K = fillD pl p' cs' r z K:=by rw [h,h2]
@[go_sem ↓] theorem Z5A {z : List V} : fillV pl [] z K = K z:=(rfl)
@[go_sem ↓] theorem Z3d {i : Nat} {v : V} {r : List (Nat × V)} {z : List V} : fillV pl ((i,v) :: r) z K = fillD pl pl[i]? v.cells r z K:=(rfl)
@[go_sem ↓] theorem Z3e {off sz : Nat} {cs : List V} {r : List (Nat × V)} {z : List V} : fillD pl (some (off,sz)) (some cs) r z K =
  (cs.length = sz ∧ off + sz ≤ z.length ∧ fillV pl r (z.take off ++ cs ++ z.drop (off + sz)) K):=by
 unfold fillD
 apply propext; constructor
 ·rintro ⟨off',sz',cs',h1,h2,h3⟩
  simp only [Option.some.injEq,Prod.mk.injEq] at h1 h2
  obtain ⟨rfl,rfl⟩:=h1; subst h2; exact h3
 ·intro h; exact ⟨off,sz,cs,rfl,rfl,h⟩
end
def bldD (pl : Option (List (Nat × Nat))) (z : Option (List V)) (parts : List (Nat × V)) (K : V → Prop) : Prop :=
 ∃ pl' z',pl = some pl' ∧ z = some z' ∧ fillV pl' parts z' fun cs=>K (.agg cs)
@[go_sem ↓] theorem J0T {t : TypeId} {parts : List (Nat × V)} : bldC P t parts K = bldD (tplc P t) (tzer P t) parts K:=(rfl)
@[congr] theorem Z3q {pl pl' : Option (List (Nat × Nat))} {z z' : Option (List V)} {parts parts' : List (Nat × V)} (h : pl = pl') (h2 : z = z') (h3 : parts = parts') : bldD pl z parts K = bldD pl' z' parts' K:=by rw [h,h2,h3]
@[go_sem ↓] theorem Z5R {pl : List (Nat × Nat)} {z : List V} {parts : List (Nat × V)} : bldD (some pl) (some z) parts K = fillV pl parts z fun cs=>K (.agg cs):=by simp [bldD]
@[go_sem ↓] theorem Z5N {vs : List V} : V.cells (.agg vs) = some vs:=(rfl)
@[go_sem ↓] theorem Z5M {v : Value} : V.cells (.lit v) = some [.lit v]:=(rfl)
@[go_sem ↓] theorem Z7O {f : Fl} {sz n : Nat} {cs : List V} : V.cells (.sl f sz n cs) = some [.sl f sz n cs]:=(rfl)
@[go_sem ↓] theorem Z5L {a b c d : Nat} : V.cells (.rsl a b c d) = some [.rsl a b c d]:=(rfl)
attribute [go_sem] List.take_succ_cons List.take_zero List.drop_succ_cons List.drop_zero List.nil_append List.cons_append List.append_nil List.length_cons List.length_nil List.length_append
attribute [go_sem] true_and and_true true_implies false_implies
end
section
variable {P : Program} {s : St} {rs : List ResultVar} {r : V} {K : List V → Prop}
@[go_sem ↓] theorem Z6K : RetS P rs r .ret s = resC P rs s fun vs=>Le s.hp .s (V.one vs) r:=by simp [RetS]
@[go_sem ↓] theorem Z6Q : resC P [] s K = K []:=(rfl)
@[go_sem ↓] theorem Z6P {t : Nat} : resC P (.tmp t :: rs) s K = resC P rs s fun vs=>K (s.get t :: vs):=(rfl)
@[go_sem ↓] theorem Z4u {a t : Nat} : resC P (.cell a t :: rs) s K = ldP P t (s.get a) s.hp fun v=>resC P rs s fun vs=>K (v :: vs):=(rfl)
@[congr] theorem Z2y {s' : St} (h : s = s') : resC P rs s K = resC P rs s' K:=by rw [h]
@[go_sem ↓] theorem Z9K {v : V} : V.one [v] = v:=(rfl)
@[go_sem ↓] theorem Z2U {i : Nat} : initTm i [] = []:=(rfl)
@[go_sem ↓] theorem Z1H {i : Nat} {v : V} {vs : List V} : initTm i (v :: vs) = (i,v) :: initTm (i + 1) vs:=(rfl)
end
section
variable {P : Program} {ρ : Operand → V} {H : List Ob} {K : V → List Ob → Prop}
@[go_sem ↓] theorem Z4c {t : TypeId} {id : Nat} : slC P (.alloc t) ρ id H K = (isRes H[id]? ∧ alD (tzer P t) fun z=>K (.ref id 0) (H.set id ⟨.own,t,z⟩)):=(rfl)
@[go_sem ↓] theorem Z6A {t : TypeId} {l c : Operand} {id : Nat} : slC P (.makeSlice t l c) ρ id H K = (isRes H[id]? ∧ mkC P t (ρ l) (ρ c) fun e sz n cs=>K (.rsl id sz 0 n) (H.set id ⟨.own,e,cs⟩)):=(rfl)
@[go_sem ↓] theorem Z9m {x y : Operand} {t : TypeId} {id : Nat} : slC P (.call { callee:=.builtin .append,args:=#[x,y],argTypes:=#[t,t] }) ρ id H K =
  (isRes H[id]? ∧ apeC P t (ρ x) (ρ y) fun e sz m news=>K (.rsl id sz 0 m) (H.set id ⟨.own,e,news⟩)):=by
 show (isRes H[id]? ∧ ∃ x' y' t',#[x,y] = #[x',y'] ∧ #[t,t] = #[t',t'] ∧ apeC P t' (ρ x') (ρ y') fun e sz m news=>K (.rsl id sz 0 m) (H.set id ⟨.own,e,news⟩)) = _
 apply propext
 constructor
 ·rintro ⟨h0,x',y',t',h1,h2,h⟩
  obtain ⟨rfl,rfl⟩ : x = x' ∧ y = y':=by simpa using h1
  obtain rfl : t = t':=by simpa using h2
  exact ⟨h0,h⟩
 ·rintro ⟨h0,h⟩; exact ⟨h0,x,y,t,rfl,rfl,h⟩
@[go_sem ↓] theorem Z2T {t : TypeId} {cs : List V} : isRes (some ⟨.res,t,cs⟩) = True:=by
 simp [isRes]
def mkE (P : Program) (o : Option (TypeId × Nat)) (n m : Int) (K : TypeId → Nat → Nat → List V → Prop) : Prop :=
 ∃ e sz by' z,o = some (e,sz) ∧ tbt P e = some by' ∧ 0 < by' ∧ tzer P e = some z ∧ z.length = sz ∧ 0 ≤ n ∧ n ≤ m ∧ by' * m ≤ 281474976710656 ∧ K e sz n.toNat (List.replicate n.toNat z).flatten
def mkF (sz : Nat) (b : Option Nat) (z : Option (List V)) (n m : Int) (K : Nat → List V → Prop) : Prop :=
 ∃ by' z',b = some by' ∧ z = some z' ∧ 0 < by' ∧ z'.length = sz ∧ 0 ≤ n ∧ n ≤ m ∧ by' * m ≤ 281474976710656 ∧ K n.toNat (List.replicate n.toNat z').flatten
@[congr] theorem Z5b {t : TypeId} {l l' c c' : V} {K : TypeId → Nat → Nat → List V → Prop} (h1 : l = l') (h2 : c = c') : mkC P t l c K = mkC P t l' c' K:=by rw [h1,h2]
@[congr] theorem Z5a {o o' : Option (TypeId × Nat)} {n m : Int} {K : TypeId → Nat → Nat → List V → Prop} (h : o = o') : mkE P o n m K = mkE P o' n m K:=by rw [h]
@[congr] theorem Z4Z {sz : Nat} {b b' : Option Nat} {z z' : Option (List V)} {n m : Int} {K : Nat → List V → Prop} (h : b = b') (h2 : z = z') : mkF sz b z n m K = mkF sz b' z' n m K:=by rw [h,h2]
@[go_sem ↓] theorem Z9Y {t : TypeId} {k k' : IntKind} {n m : Int} {K : TypeId → Nat → Nat → List V → Prop} : mkC P t (.lit (.int k n)) (.lit (.int k' m)) K = mkE P (tsl P t) n m K:=by
 apply propext; constructor
 ·rintro ⟨e,sz,by',z,h1,h2,h3,h4,h5,q,q',n',m',h6,h7,h8⟩
  cases h6; cases h7
  exact ⟨e,sz,by',z,h1,h2,h3,h4,h5,h8⟩
 ·rintro ⟨e,sz,by',z,h1,h2,h3,h4,h5,h8⟩
  exact ⟨e,sz,by',z,h1,h2,h3,h4,h5,k,k',n,m,rfl,rfl,h8⟩
@[go_sem ↓] theorem Z7f {e sz : Nat} {n m : Int} {K : TypeId → Nat → Nat → List V → Prop} : mkE P (some (e,sz)) n m K = mkF sz (tbt P e) (tzer P e) n m (K e sz):=by
 apply propext; constructor
 ·rintro ⟨e',sz',by',z,h1,h2,h3,h4,h5,h8⟩
  cases h1
  exact ⟨by',z,h2,h4,h3,h5,h8⟩
 ·rintro ⟨by',z,h2,h4,h3,h5,h8⟩
  exact ⟨e,sz,by',z,rfl,h2,h3,h4,h5,h8⟩
@[go_sem ↓] theorem Z7e {sz b : Nat} {z : List V} {n m : Int} {K : Nat → List V → Prop} : mkF sz (some b) (some z) n m K =
  (0 < b ∧ z.length = sz ∧ 0 ≤ n ∧ n ≤ m ∧ b * m ≤ 281474976710656 ∧ K n.toNat (List.replicate n.toNat z).flatten):=by
 simp [mkF]
def bslE (P : Program) (o : Option (TypeId × Nat)) (len : Nat) (parts : List (Nat × V)) (H : List Ob) (K : V → List Ob → Prop) : Prop :=
 ∃ e sz z,o = some (e,sz) ∧ tzer P e = some z ∧ z.length = sz ∧ 0 < sz ∧ len * sz ≤ 16777216 ∧
  if len = 0 then parts = [] ∧ K .emp H
  else fillV ((List.range len).map fun i=>(i * sz,sz)) parts (List.replicate len z).flatten fun cs =>
   if cs.all V.clB = true then K (.sl .s sz len cs) H else K (.rsl H.length sz 0 len) (H ++ [⟨.own,e,cs⟩])
@[go_sem ↓] theorem J0P {t : TypeId} {len : Nat} {parts : List (Nat × V)} : bslC P t len parts H K = bslE P (tsl P t) len parts H K:=(rfl)
@[congr] theorem Z3o {o o' : Option (TypeId × Nat)} {len : Nat} {parts : List (Nat × V)} (h : o = o') : bslE P o len parts H K = bslE P o' len parts H K:=by rw [h]
@[go_sem ↓] theorem Z7W {e sz : Nat} : bslE P (some (e,sz)) 0 [] H K = alD (tzer P e) fun z=>z.length = sz ∧ 0 < sz ∧ K .emp H:=by
 apply propext; constructor
 ·rintro ⟨e',sz',z,h1,h2,h3,h4,h5,h6⟩
  cases h1
  rw [if_pos rfl] at h6
  exact ⟨z,h2,h3,h4,h6.2⟩
 ·rintro ⟨z,h2,h3,h4,h6⟩
  exact ⟨e,sz,z,rfl,h2,h3,h4,by simp,by rw [if_pos rfl]; exact ⟨rfl,h6⟩⟩
def allC (b : Bool) (x y : V × List Ob) (K : V → List Ob → Prop) : Prop:=match b with
 | true=>K x.1 x.2
 | false=>K y.1 y.2
def bslF (P : Program) (e sz len : Nat) (pl : List (Nat × Nat)) (o : Option (List V)) (parts : List (Nat × V)) (H : List Ob) (K : V → List Ob → Prop) : Prop :=
 ∃ z,o = some z ∧ z.length = sz ∧ 0 < sz ∧ len * sz ≤ 16777216 ∧ fillV pl parts (List.replicate len z).flatten fun cs=>allC (cs.all V.clB) (.sl .s sz len cs,H) (.rsl H.length sz 0 len,H ++ [⟨.own,e,cs⟩]) K
theorem Y5m {e sz len : Nat} {parts : List (Nat × V)} (h : len ≠ 0) : bslE P (some (e,sz)) len parts H K = bslF P e sz len ((List.range len).map fun i=>(i * sz,sz)) (tzer P e) parts H K:=by
 unfold bslE bslF
 apply propext; constructor
 ·rintro ⟨e',sz',z,h1,h2,h3,h4,h5,h6⟩
  cases h1
  rw [if_neg h] at h6
  refine ⟨z,h2,h3,h4,h5, ?_⟩
  have : (fun cs=>if cs.all V.clB = true then K (.sl .s sz len cs) H else K (.rsl H.length sz 0 len) (H ++ [⟨.own,e,cs⟩])) = fun cs=>allC (cs.all V.clB) (.sl .s sz len cs,H) (.rsl H.length sz 0 len,H ++ [⟨.own,e,cs⟩]) K:=by
   funext cs; unfold allC; cases cs.all V.clB <;> simp
  rw [← this]; exact h6
 ·rintro ⟨z,h2,h3,h4,h5,h6⟩
  refine ⟨e,sz,z,rfl,h2,h3,h4,h5, ?_⟩
  rw [if_neg h]
  have : (fun cs=>if cs.all V.clB = true then K (.sl .s sz len cs) H else K (.rsl H.length sz 0 len) (H ++ [⟨.own,e,cs⟩])) = fun cs=>allC (cs.all V.clB) (.sl .s sz len cs,H) (.rsl H.length sz 0 len,H ++ [⟨.own,e,cs⟩]) K:=by
   funext cs; unfold allC; cases cs.all V.clB <;> simp
  rw [this]; exact h6
@[go_sem ↓] theorem Z7V {e sz : Nat} {parts : List (Nat × V)} : bslE P (some (e,sz)) 1 parts H K = bslF P e sz 1 [(0,sz)] (tzer P e) parts H K:=by
 rw [Y5m (by decide)]
 have : (List.range 1).map (fun i=>(i * sz,sz)) = [(0,sz)]:=by simp [List.range_succ]
 rw [this]
@[go_sem ↓] theorem Z3n {e sz : Nat} {parts : List (Nat × V)} : bslE P (some (e,sz)) 3 parts H K = bslF P e sz 3 [(0,sz),(sz,sz),(2 * sz,sz)] (tzer P e) parts H K:=by
 rw [Y5m (by decide)]
 have : (List.range 3).map (fun i=>(i * sz,sz)) = [(0,sz),(sz,sz),(2 * sz,sz)]:=by simp [List.range_succ]
 rw [this]
@[congr] theorem Z3m {e sz len : Nat} {pl : List (Nat × Nat)} {o o' : Option (List V)} {parts parts' : List (Nat × V)} {H' : List Ob} (h : o = o') (h2 : parts = parts') (h3 : H = H') : bslF P e sz len pl o parts H K = bslF P e sz len pl o' parts' H' K:=by rw [h,h2,h3]
@[go_sem ↓] theorem Z5Q {e sz len : Nat} {pl : List (Nat × Nat)} {z : List V} {parts : List (Nat × V)} : bslF P e sz len pl (some z) parts H K =
  (z.length = sz ∧ 0 < sz ∧ len * sz ≤ 16777216 ∧ fillV pl parts (List.replicate len z).flatten fun cs=>allC (cs.all V.clB) (.sl .s sz len cs,H) (.rsl H.length sz 0 len,H ++ [⟨.own,e,cs⟩]) K):=by simp [bslF]
def bslP (P : Program) (o : Option (TypeId × Nat)) (len : Nat) (parts : List (Nat × V)) (H : List Ob) (K : V → List Ob → Prop) : Prop :=
 ∃ e sz z,o = some (e,sz) ∧ tzer P e = some z ∧ z.length = sz ∧ 0 < sz ∧ len * sz ≤ 16777216 ∧
  if len = 0 then parts = [] ∧ K .emp H
  else fillV ((List.range len).map fun i=>(i * sz,sz)) parts (List.replicate len z).flatten fun cs=>K (.rsl H.length sz 0 len) (H ++ [⟨.own,e,cs⟩])
@[go_sem ↓] theorem J0O {t : TypeId} {len : Nat} {parts : List (Nat × V)} : bslO P t len parts H K = bslP P (tsl P t) len parts H K:=(rfl)
@[congr] theorem Z3l {o o' : Option (TypeId × Nat)} {len : Nat} {parts : List (Nat × V)} (h : o = o') : bslP P o len parts H K = bslP P o' len parts H K:=by rw [h]
def bslQ (P : Program) (e sz len : Nat) (pl : List (Nat × Nat)) (o : Option (List V)) (parts : List (Nat × V)) (H : List Ob) (K : V → List Ob → Prop) : Prop :=
 ∃ z,o = some z ∧ z.length = sz ∧ 0 < sz ∧ len * sz ≤ 16777216 ∧ fillV pl parts (List.replicate len z).flatten fun cs=>K (.rsl H.length sz 0 len) (H ++ [⟨.own,e,cs⟩])
theorem Y9W {e sz len : Nat} {parts : List (Nat × V)} (h : len ≠ 0) : bslP P (some (e,sz)) len parts H K = bslQ P e sz len ((List.range len).map fun i=>(i * sz,sz)) (tzer P e) parts H K:=by
 unfold bslP bslQ
 apply propext; constructor
 ·rintro ⟨e',sz',z,h1,h2,h3,h4,h5,h6⟩
  cases h1
  rw [if_neg h] at h6
  exact ⟨z,h2,h3,h4,h5,h6⟩
 ·rintro ⟨z,h2,h3,h4,h5,h6⟩
  refine ⟨e,sz,z,rfl,h2,h3,h4,h5, ?_⟩
  rw [if_neg h]; exact h6
@[go_sem ↓] theorem Z7U {e sz : Nat} {parts : List (Nat × V)} : bslP P (some (e,sz)) 1 parts H K = bslQ P e sz 1 [(0,sz)] (tzer P e) parts H K:=by
 rw [Y9W (by decide)]
 have : (List.range 1).map (fun i=>(i * sz,sz)) = [(0,sz)]:=by simp [List.range_succ]
 rw [this]
@[congr] theorem Z3k {e sz len : Nat} {pl : List (Nat × Nat)} {o o' : Option (List V)} {parts parts' : List (Nat × V)} {H' : List Ob} (h : o = o') (h2 : parts = parts') (h3 : H = H') : bslQ P e sz len pl o parts H K = bslQ P e sz len pl o' parts' H' K:=by rw [h,h2,h3]
@[go_sem ↓] theorem Z5P {e sz len : Nat} {pl : List (Nat × Nat)} {z : List V} {parts : List (Nat × V)} : bslQ P e sz len pl (some z) parts H K =
  (z.length = sz ∧ 0 < sz ∧ len * sz ≤ 16777216 ∧ fillV pl parts (List.replicate len z).flatten fun cs=>K (.rsl H.length sz 0 len) (H ++ [⟨.own,e,cs⟩])):=by simp [bslQ]
@[congr] theorem Z3x {b b' : Bool} {x y : V × List Ob} (h : b = b') : allC b x y K = allC b' x y K:=by rw [h]
@[go_sem ↓] theorem Z5X {x : V} {h : List Ob} {y : V × List Ob} : allC true (x,h) y K = K x h:=(rfl)
@[go_sem] theorem J0L {v : Value} : V.clB (.lit v) = true:=(rfl)
@[go_sem] theorem J0K {sz n : Nat} {cs : List V} : V.clB (.sl .s sz n cs) = true:=(rfl)
attribute [go_sem] List.all_cons List.all_nil Bool.and_true Bool.true_and Bool.and_false Bool.false_and List.replicate_succ List.replicate_zero List.flatten_cons List.flatten_nil List.append_nil List.nil_append List.cons_append
def stD (n : Option Nat) (cs : Option (List V)) (o : Option Ob) (off : Nat) (K : Ob → Prop) : Prop :=
 ∃ n' cs' ob,n = some n' ∧ cs = some cs' ∧ cs'.length = n' ∧ (∀ c ∈ cs',c.cell) ∧ o = some ob ∧ ob.st = .own ∧ off + n' ≤ ob.cs.length ∧ K { ob with cs:=ob.cs.take off ++ cs' ++ ob.cs.drop (off + n') }
@[congr] theorem Z3V {t : TypeId} {v v' u u' : V} {H' : List Ob} (h1 : v = v') (h2 : u = u') (h3 : H = H') : stC P t v u H K = stC P t v' u' H' K:=by rw [h1,h2,h3]
@[congr] theorem Z3U {n n' : Option Nat} {cs cs' : Option (List V)} {o o' : Option Ob} {off off' : Nat} {K : Ob → Prop} (h1 : n = n') (h2 : cs = cs') (h3 : o = o') (h4 : off = off') : stD n cs o off K = stD n' cs' o' off' K:=by rw [h1,h2,h3,h4]
@[go_sem ↓] theorem Z9c {t : TypeId} {id off : Nat} {x : V} : stC P t (.ref id off) x H K = stD (tsz P t) x.cells H[id]? off fun ob=>K .any (H.set id ob):=(rfl)
@[go_sem ↓] theorem Z9b {n : Nat} {cs ocs : List V} {ty : TypeId} {off : Nat} {K : Ob → Prop} : stD (some n) (some cs) (some ⟨.own,ty,ocs⟩) off K =
  (cs.length = n ∧ (∀ c ∈ cs,c.cell) ∧ off + n ≤ ocs.length ∧ K ⟨.own,ty,ocs.take off ++ cs ++ ocs.drop (off + n)⟩):=by
 simp [stD]
def srcD (o : Option Ob) (sz o' m : Nat) (K : List V → Prop) : Prop :=
 ∃ ob,o = some ob ∧ (ob.st = .own ∨ ob.st = .frz) ∧ o' * sz + m * sz ≤ ob.cs.length ∧ (∀ c ∈ (ob.cs.drop (o' * sz)).take (m * sz),c.nu) ∧ K ((ob.cs.drop (o' * sz)).take (m * sz))
def srcE (H : List Ob) (v : V) (sz : Nat) (K : Nat → List V → Prop) : Prop:=∃ m news,srcC H v sz m news ∧ K m news
@[congr] theorem Z2q {H' : List Ob} {v v' : V} {sz : Nat} {K : Nat → List V → Prop} (h : H = H') (h2 : v = v') : srcE H v sz K = srcE H' v' sz K:=by rw [h,h2]
@[go_sem ↓] theorem Z9d {f : Fl} {sz sz' n : Nat} {cs : List V} {K : Nat → List V → Prop} : srcE H (.sl f sz' n cs) sz K = (f ≠ .u ∧ sz' = sz ∧ K n cs):=by
 apply propext; constructor
 ·rintro ⟨m,news,⟨h1,h2,rfl,rfl⟩,h⟩; exact ⟨h1,h2,h⟩
 ·rintro ⟨h1,h2,h⟩; exact ⟨n,cs,⟨h1,h2,rfl,rfl⟩,h⟩
@[congr] theorem Z2r {o o2 : Option Ob} {sz o' m : Nat} {K : List V → Prop} (h : o = o2) : srcD o sz o' m K = srcD o2 sz o' m K:=by rw [h]
@[congr] theorem Z3v {t : TypeId} {v v' u u' : V} {H' : List Ob} (h1 : v = v') (h2 : u = u') (h3 : H = H') : appC P t v u H K = appC P t v' u' H' K:=by rw [h1,h2,h3]
def apD (P : Program) (o : Option (TypeId × Nat)) (K : TypeId → Nat → Nat → Prop) : Prop :=
 ∃ e sz,o = some (e,sz) ∧ 0 < sz ∧ ∃ by' z,tbt P e = some by' ∧ 0 < by' ∧ tzer P e = some z ∧ z.length = sz ∧ K e sz by'
def apF (sz : Nat) (b : Option Nat) (z : Option (List V)) (K : Nat → Prop) : Prop:=∃ by' z',b = some by' ∧ z = some z' ∧ 0 < sz ∧ 0 < by' ∧ z'.length = sz ∧ K by'
@[congr] theorem Z5W {o o' : Option (TypeId × Nat)} {K : TypeId → Nat → Nat → Prop} (h : o = o') : apD P o K = apD P o' K:=by rw [h]
@[congr] theorem Z5V {sz : Nat} {b b' : Option Nat} {z z' : Option (List V)} {K : Nat → Prop} (h : b = b') (h2 : z = z') : apF sz b z K = apF sz b' z' K:=by rw [h,h2]
@[go_sem ↓] theorem Z8h {e sz : Nat} {K : TypeId → Nat → Nat → Prop} : apD P (some (e,sz)) K = apF sz (tbt P e) (tzer P e) (K e sz):=by
 apply propext; constructor
 ·rintro ⟨e',sz',h1,h2,b,z,h3,h4,h5,h6,h7⟩; cases h1; exact ⟨b,z,h3,h5,h2,h4,h6,h7⟩
 ·rintro ⟨b,z,h3,h5,h2,h4,h6,h7⟩; exact ⟨e,sz,rfl,h2,b,z,h3,h4,h5,h6,h7⟩
@[go_sem ↓] theorem Z8g {sz b : Nat} {z : List V} {K : Nat → Prop} : apF sz (some b) (some z) K = (0 < sz ∧ 0 < b ∧ z.length = sz ∧ K b):=by simp [apF]
@[go_sem ↓] theorem Z8e {t : TypeId} {vx : V} : appC P t .emp vx H K = apD P (tsl P t) fun e sz b=>srcE H vx sz fun m news=>(∀ c ∈ news,c.cell) ∧ m * b ≤ 140737488355328 ∧ K (.rsl H.length sz 0 m) (H ++ [⟨.own,e,news⟩]):=by
 apply propext; constructor
 ·rintro ⟨e,sz,by',z,g1,g2,g3,g4,g5,g6,m,news,g7,g8,h⟩
  exact ⟨e,sz,g1,g2,by',z,g3,g4,g5,g6,m,news,g7,g8,h⟩
 ·rintro ⟨e,sz,g1,g2,by',z,g3,g4,g5,g6,m,news,g7,g8,h⟩
  exact ⟨e,sz,by',z,g1,g2,g3,g4,g5,g6,m,news,g7,g8,h⟩
def apO (o : Option Ob) (e n sz : Nat) (K : Ob → Prop) : Prop:=∃ ob,o = some ob ∧ ob.st = .own ∧ ob.ty = e ∧ ob.cs.length = n * sz ∧ K ob
@[congr] theorem Z5U {o o' : Option Ob} {e n sz : Nat} {K : Ob → Prop} (h : o = o') : apO o e n sz K = apO o' e n sz K:=by rw [h]
@[go_sem ↓] theorem J0X {ty e n sz : Nat} {cs : List V} {K : Ob → Prop} : apO (some ⟨.own,ty,cs⟩) e n sz K = (ty = e ∧ cs.length = n * sz ∧ K ⟨.own,ty,cs⟩):=by simp [apO]
@[go_sem ↓] theorem Z8d {t : TypeId} {id sz' n : Nat} {vx : V} : appC P t (.rsl id sz' 0 n) vx H K = apD P (tsl P t) fun e sz b=>srcE H vx sz fun m news=>(∀ c ∈ news,c.cell) ∧ sz' = sz ∧ (n + m) * b ≤ 140737488355328 ∧
  apO H[id]? e n sz fun ob=>K (.rsl H.length sz 0 (n + m)) (H.set id { ob with st:=.dead } ++ [⟨.own,e,ob.cs ++ news⟩]):=by
 apply propext; constructor
 ·rintro ⟨e,sz,by',z,g1,g2,g3,g4,g5,g6,m,news,g7,g8,h⟩
  exact ⟨e,sz,g1,g2,by',z,g3,g4,g5,g6,m,news,g7,g8,h⟩
 ·rintro ⟨e,sz,g1,g2,by',z,g3,g4,g5,g6,m,news,g7,g8,h⟩
  exact ⟨e,sz,by',z,g1,g2,g3,g4,g5,g6,m,news,g7,g8,h⟩
def mvO (o : Option Ob) (m sz : Nat) (K : Ob → Prop) : Prop:=∃ ob,o = some ob ∧ ob.st = .own ∧ ob.cs.length = m * sz ∧ (∀ c ∈ ob.cs,c.cell) ∧ K ob
@[congr] theorem Z4Q {o o' : Option Ob} {m sz : Nat} {K : Ob → Prop} (h : o = o') : mvO o m sz K = mvO o' m sz K:=by rw [h]
@[go_sem ↓] theorem Z9U {ty m sz : Nat} {cs : List V} {K : Ob → Prop} : mvO (some ⟨.own,ty,cs⟩) m sz K = (cs.length = m * sz ∧ (∀ c ∈ cs,c.cell) ∧ K ⟨.own,ty,cs⟩):=by simp [mvO]
@[congr] theorem Z3u {t : TypeId} {v v' u u' : V} {H' : List Ob} (h1 : v = v') (h2 : u = u') (h3 : H = H') : appM P t v u H K = appM P t v' u' H' K:=by rw [h1,h2,h3]
@[go_sem ↓] theorem J0W {t : TypeId} {vs : V} {f : Fl} {sz m : Nat} {cs : List V} : appM P t vs (.sl f sz m cs) H K = appC P t vs (.sl f sz m cs) H K:=by cases vs <;> first | rfl | (rename_i a b c d; cases c <;> rfl)
@[go_sem ↓] theorem Z8c {t : TypeId} {id sz' n id2 sz2 m : Nat} : appM P t (.rsl id sz' 0 n) (.rsl id2 sz2 0 m) H K = apD P (tsl P t) fun e sz b=>sz' = sz ∧ sz2 = sz ∧ id ≠ id2 ∧ (n + m) * b ≤ 140737488355328 ∧
  mvO H[id2]? m sz fun ob2=>apO H[id]? e n sz fun ob=>K (.rsl H.length sz 0 (n + m)) ((H.set id { ob with st:=.dead }).set id2 { ob2 with st:=.dead } ++ [⟨.own,e,ob.cs ++ ob2.cs⟩]):=by
 show mvC P t id sz' n id2 sz2 m H K = _
 apply propext; constructor
 ·rintro ⟨e,sz,by',z,h1,h2,h3,h4,h5,h6,h7,h8,h9,h10,ob2,h11,h12,h13,h14,ob,h15,h16,h17,h18,h19⟩
  exact ⟨e,sz,h1,h2,by',z,h3,h4,h5,h6,h7,h8,h9,h10,ob2,h11,h12,h13,h14,ob,h15,h16,h17,h18,h19⟩
 ·rintro ⟨e,sz,h1,h2,by',z,h3,h4,h5,h6,h7,h8,h9,h10,ob2,h11,h12,h13,h14,ob,h15,h16,h17,h18,h19⟩
  exact ⟨e,sz,by',z,h1,h2,h3,h4,h5,h6,h7,h8,h9,h10,ob2,h11,h12,h13,h14,ob,h15,h16,h17,h18,h19⟩
@[go_sem ↓] theorem Z8f {t : TypeId} {vx : V} {K : TypeId → Nat → Nat → List V → Prop} : apeC P t .emp vx K = apD P (tsl P t) fun e sz b=>srcE [] vx sz fun m news=>(∀ c ∈ news,c.cell) ∧ m * b ≤ 140737488355328 ∧ K e sz m news:=by
 apply propext; constructor
 ·rintro ⟨_,e,sz,by',z,g1,g2,g3,g4,g5,g6,m,news,g7,g8,h⟩
  exact ⟨e,sz,g1,g2,by',z,g3,g4,g5,g6,m,news,g7,g8,h⟩
 ·rintro ⟨e,sz,g1,g2,by',z,g3,g4,g5,g6,m,news,g7,g8,h⟩
  exact ⟨rfl,e,sz,by',z,g1,g2,g3,g4,g5,g6,m,news,g7,g8,h⟩
@[congr] theorem Z3w {t : TypeId} {v v' u u' : V} {K : TypeId → Nat → Nat → List V → Prop} (h1 : v = v') (h2 : u = u') : apeC P t v u K = apeC P t v' u' K:=by rw [h1,h2]
attribute [go_sem] List.getElem?_cons_zero List.getElem?_cons_succ List.set_cons_zero List.set_cons_succ List.getElem?_nil
@[go_sem ↓] theorem Z7S {v : Value} : V.cell (.lit v) = True:=(rfl)
@[go_sem ↓] theorem Z7T : V.cell .emp = True:=(rfl)
@[go_sem ↓] theorem J0M {f : Fl} {sz n : Nat} {cs : List V} : V.cell (.sl f sz n cs) = True:=(rfl)
@[go_sem ↓] theorem Z7Q {a b c d : Nat} : V.cell (.rsl a b c d) = True:=(rfl)
@[go_sem ↓] theorem Z1P {cs : List V} {p : V → Prop} {v : V} : (∀ c ∈ v :: cs,p c) = (p v ∧ ∀ c ∈ cs,p c):=by simp
@[go_sem ↓] theorem Y8g {p : V → Prop} : (∀ c ∈ ([] : List V),p c) = True:=by simp
@[go_sem ↓] theorem J1O {v : Value} : V.nu (.lit v) = True:=(rfl)
@[go_sem ↓] theorem J1P : V.nu .emp = True:=(rfl)
@[go_sem ↓] theorem Z9N {sz n : Nat} {cs : List V} : V.nu (.sl .s sz n cs) = True:=(rfl)
@[go_sem ↓] theorem Z9O {sz n : Nat} {cs : List V} : V.nu (.sl .b sz n cs) = True:=(rfl)
@[go_sem] theorem nu_sl {f : Fl} {sz n : Nat} {cs : List V} : V.nu (.sl f sz n cs) = (f ≠ .u):=by cases f <;> simp [V.nu]
@[go_sem ↓] theorem J1N {a b c d : Nat} : V.nu (.rsl a b c d) = True:=(rfl)
end
abbrev I (n : Int) : V:=.lit (.int .i64 n)
abbrev Bo (b : Bool) : V:=.lit (.bool b)
def iC (l : List Int) : List V:=l.map fun n=>I n
abbrev sI (f : Fl) (l : List Int) : V:=.sl f 1 l.length (iC l)
theorem w64 {n : Int} (h : -9223372036854775808 ≤ n ∧ n ≤ 9223372036854775807) : IntKind.wrap .i64 n = n:=Go.IntWalk.i64_in n h
@[go_sem] theorem Q0W {l : List Int} : (iC l).length = l.length:=by simp [iC]
theorem Y3H {l : List Int} {i : Nat} : (iC l).drop i = iC (l.drop i):=by simp [iC]
theorem Q8X {l : List Int} {i : Nat} : (iC l).take i = iC (l.take i):=by simp [iC]
theorem Q2t {l m : List Int} : iC l ++ iC m = iC (l ++ m):=by simp [iC]
theorem X9X {n : Int} : [I n] = iC [n]:=rfl
theorem Q0t {l : List Int} {i : Nat} (h : i < l.length) : ((iC l).drop i)[0]? = some (I (l.getD i 0)):=by
 simp [iC,List.getElem?_drop,h]
theorem Q0K {l : List Int} {i : Nat} {v : Int} (h : i < l.length) : (iC l).take i ++ [I v] ++ (iC l).drop (i + 1) = iC (l.set i v):=by
 rw [Q8X,Y3H,X9X,Q2t,Q2t]
 congr 1
 rw [List.append_assoc,List.singleton_append,List.set_eq_take_append_cons_drop,if_pos h]
theorem Q2Q (n : Nat) : (List.replicate n [I 0]).flatten = iC (List.replicate n 0):=by
 induction n with
 | zero=>rfl
 | succ n ih=>rw [List.replicate_succ,List.flatten_cons,ih,List.replicate_succ]; rfl
@[go_sem] theorem J0w {l : List Int} : (∀ c ∈ iC l,c.cell) = True:=by
 apply propext; simp [iC,V.cell]
theorem iC_nu {l : List Int} : ∀ c ∈ iC l,c.nu:=by
 simp [iC,V.nu]
@[go_sem] theorem Z2X {l : List Int} {i n : Nat} : (∀ c ∈ ((iC l).drop i).take n,c.nu) = True:=by
 apply propext; refine ⟨fun _=>trivial,fun _=>?_⟩
 rw [Y3H,Q8X]; exact iC_nu
section
variable {H : List Ob} {f : Fl}
theorem LeL.lits : ∀ {l : List Int},LeL H f (iC l) (iC l)
 | []=>.nil
 | n :: l=>.cons _ _ _ _ (.lit _) (LeL.lits (l:=l))
theorem LeL.app {a b a' b' : List V} (h1 : LeL H f a a') (h2 : LeL H f b b') : LeL H f (a ++ b) (a' ++ b'):=by
 induction h1 using LeL.rec (motive_1:=fun _ _ _=>True) with
 | nil=>exact h2
 | cons v v' vs vs' h _ _ ih=>exact .cons _ _ _ _ h ih
 | _=>trivial
theorem Le.ownI {id o n : Nat} {ty : TypeId} {l : List Int} (h : H[id]? = some ⟨.own,ty,iC l⟩) (hn : o + n ≤ l.length) : Le H f (.rsl id 1 o n) (sI f ((l.drop o).take n)):=by
 have hl : ((l.drop o).take n).length = n:=by rw [List.length_take,List.length_drop]; omega
 have:=Le.rsl (H:=H) (f:=f) id 1 o n ⟨.own,ty,iC l⟩ (iC ((l.drop o).take n)) h (.inl rfl) (by simp [Q0W]; omega) (by rw [Nat.mul_one,Nat.mul_one,Y3H,Q8X]; exact LeL.lits)
 rwa [sI,hl]
theorem Le.ownI0 {id : Nat} {ty : TypeId} {l : List Int} (h : H[id]? = some ⟨.own,ty,iC l⟩) {n : Nat} (hn : n = l.length) : Le H f (.rsl id 1 0 n) (sI f l):=by
 subst hn
 have:=Le.ownI (f:=f) h (o:=0) (n:=l.length) (by omega)
 simpa using this
theorem Le.slI {g : Fl} (hf : f = .b ∨ g = .s) (hg : g ≠ .u) {l : List Int} : Le H f (sI g l) (sI g l):=by
 refine .sl _ _ _ _ _ _ ?_ LeL.lits
 cases g
 ·exact .inl rfl
 ·rcases hf with rfl | h
  ·exact ⟨rfl,rfl⟩
  ·cases h
 ·exact absurd rfl hg
theorem Le.slS {l : List Int} : Le H f (sI .s l) (sI .s l):=Le.slI (.inr rfl) (by simp)
theorem Le.empI {g : Fl} : Le H f .emp (sI g []):=.esl _ _
end
def tmLe (n : Nat) (s : St) : List (Nat × V) → Prop
 | []=>True
 | (t,v) :: r=>Vk n (s.get t) v ∧ tmLe n s r
def obLe (n : Nat) (ob ob' : Ob) : Prop:=ob'.st = .dead ∨ (ob.st = ob'.st ∧ ob.ty = ob'.ty ∧ VkL n ob.cs ob'.cs)
def hpLe (n : Nat) : List Ob → List Ob → Prop
 | _,[]=>True
 | [],_ :: _=>False
 | ob :: H,ob' :: H'=>obLe n ob ob' ∧ hpLe n H H'
theorem Y1Z {n : Nat} {s : St} : ∀ {l : List (Nat × V)},tmLe n s l → ∀ p ∈ l,Vk n (s.get p.1) p.2
 | [],_,p,h=>by simp at h
 | (t,v) :: r,h,p,hp=>by
  rcases List.mem_cons.1 hp with rfl | hp
  ·exact h.1
  ·exact Y1Z h.2 p hp
theorem Y2y {n : Nat} : ∀ {H H' : List Ob},hpLe n H H' → H'.length ≤ H.length ∧ ∀ (i : Nat) (ob' : Ob),H'[i]? = some ob' → ob'.st = .dead ∨ ∃ ob,H[i]? = some ob ∧ ob.st = ob'.st ∧ ob.ty = ob'.ty ∧ VkL n ob.cs ob'.cs
 | H,[],_=>⟨by simp,by intro i ob' h; simp at h⟩
 | [],_ :: _,h=>h.elim
 | ob :: H,ob' :: H',h=>by
  obtain ⟨h1,h2⟩:=Y2y h.2
  refine ⟨by simpa using h1, ?_⟩
  intro i ob2 hi
  cases i with
  | zero =>
   simp only [List.getElem?_cons_zero,Option.some.injEq] at hi
   subst hi
   exact h.1.imp (fun h=>h) fun h=>⟨ob,rfl,h⟩
  | succ i=>exact h2 i ob2 (by simpa using hi)
theorem VkL.refl_of {n : Nat} : ∀ {cs : List V},(∀ c ∈ cs,c.bel n) → VkL n cs cs
 | [],_=>.nil
 | c :: cs,h=>.cons _ _ _ _ (.same _ (h c (by simp))) (VkL.refl_of fun c hc=>h c (by simp [hc]))
@[go_sem] theorem Z9a {n0 : Nat} {tm tm' : List (Nat × V)} {H H' : List Ob} : StLe n0 ⟨tm,H⟩ ⟨tm',H'⟩ = (n0 ≤ H'.length ∧ tmLe H'.length ⟨tm,H⟩ tm' ∧ hpLe H'.length H H'):=by
 apply propext; constructor
 ·intro h
  refine ⟨h.nn, ?_, ?_⟩
  ·have:=h.tm
   have key : ∀ l : List (Nat × V),(∀ p ∈ l,Vk H'.length (St.get ⟨tm,H⟩ p.1) p.2) → tmLe H'.length ⟨tm,H⟩ l:=by
    intro l
    induction l with
    | nil=>intro _; trivial
    | cons p l ih=>intro hl; exact ⟨hl p (by simp),ih fun p hp=>hl p (by simp [hp])⟩
   exact key _ this
  ·have h1:=h.len
   have h2:=h.hp
   have key : ∀ (n : Nat) (H H' : List Ob),H'.length ≤ H.length → (∀ (i : Nat) (ob' : Ob),H'[i]? = some ob' → ob'.st = .dead ∨ ∃ ob,H[i]? = some ob ∧ ob.st = ob'.st ∧ ob.ty = ob'.ty ∧ VkL n ob.cs ob'.cs) → hpLe n H H':=by
    intro n H H'
    induction H' generalizing H with
    | nil=>intro _ _; cases H <;> trivial
    | cons ob' H' ih =>
     intro hl hh
     cases H with
     | nil=>simp at hl
     | cons ob H =>
      refine ⟨?_,ih H (by simpa using hl) fun i ob2 hi=>hh (i + 1) ob2 (by simpa using hi)⟩
      rcases hh 0 ob' rfl with h | ⟨ob2,h,hr⟩
      ·exact .inl h
      ·simp only [List.getElem?_cons_zero,Option.some.injEq] at h
       subst h; exact .inr hr
   exact key _ _ _ h1 h2
 ·rintro ⟨h0,h1,h2⟩
  obtain ⟨h3,h4⟩:=Y2y h2
  exact ⟨h0,h3,Y1Z h1,h4⟩
@[go_sem] theorem Z6s {n : Nat} {s : St} : tmLe n s [] = True:=(rfl)
@[go_sem] theorem Z3Q {n t : Nat} {s : St} {v : V} {r : List (Nat × V)} : tmLe n s ((t,v) :: r) = (Vk n (s.get t) v ∧ tmLe n s r):=(rfl)
@[go_sem] theorem Z7z {n : Nat} {H : List Ob} : hpLe n H [] = True:=by cases H <;> rfl
@[go_sem] theorem Z5l {n : Nat} {ob ob' : Ob} {H H' : List Ob} : hpLe n (ob :: H) (ob' :: H') = (obLe n ob ob' ∧ hpLe n H H'):=(rfl)
@[go_sem] theorem Z6W {n : Nat} {t t' : TypeId} {cs cs' : List V} : obLe n ⟨.own,t,cs⟩ ⟨.own,t',cs'⟩ = (t = t' ∧ VkL n cs cs'):=by simp [obLe]
@[go_sem] theorem Z3K {n : Nat} {a b : Value} : Vk n (.lit a) (.lit b) = (a = b):=by
 apply propext; constructor
 ·intro h; cases h; rfl
 ·rintro rfl; exact .same _ trivial
@[go_sem] theorem vk_sl {n : Nat} {f : Fl} {sz k sz' k' : Nat} {cs cs' : List V} : Vk n (.sl f sz k cs) (.sl f sz' k' cs') = (sz = sz' ∧ k = k' ∧ cs = cs'):=by
 apply propext; constructor
 ·intro h; cases h <;> exact ⟨rfl,rfl,rfl⟩
 ·rintro ⟨rfl,rfl,rfl⟩; exact .same _ trivial
@[go_sem] theorem J1p {n : Nat} {f : Fl} {cs cs' : List V} : Vk n (.ptr f cs) (.ptr f cs') = (cs = cs'):=by
 apply propext; constructor
 ·intro h; cases h; rfl
 ·rintro rfl; exact .same _ trivial
@[go_sem] theorem J1n {n a b c d a' b' c' d' : Nat} : Vk n (.rsl a b c d) (.rsl a' b' c' d') = (a = a' ∧ b = b' ∧ c = c' ∧ d = d' ∧ a < n):=by
 apply propext; constructor
 ·intro h; cases h with | same _ h=>exact ⟨rfl,rfl,rfl,rfl,h⟩
 ·rintro ⟨rfl,rfl,rfl,rfl,h⟩; exact .same _ h
@[go_sem] theorem J1o {n a b a' b' : Nat} : Vk n (.ref a b) (.ref a' b') = (a = a' ∧ b = b' ∧ a < n):=by
 apply propext; constructor
 ·intro h; cases h with | same _ h=>exact ⟨rfl,rfl,h⟩
 ·rintro ⟨rfl,rfl,h⟩; exact .same _ h
@[go_sem] theorem vk_fn {n : Nat} {f f' : Fn} {a b a' b' : List V} : Vk n (.fn f a b) (.fn f' a' b') = (f = f' ∧ VkL n a a' ∧ VkL n b b'):=by
 apply propext; constructor
 ·intro h; cases h with | same _ h=>exact h.elim | fn _ _ _ _ _ h1 h2=>exact ⟨rfl,h1,h2⟩
 ·rintro ⟨rfl,h1,h2⟩; exact .fn _ _ _ _ _ h1 h2
@[go_sem] theorem Z8w {n : Nat} : VkL n [] [] = True:=by apply propext; exact ⟨fun _=>trivial,fun _=>.nil⟩
@[go_sem] theorem Y9b {n : Nat} {v v' : V} {vs vs' : List V} : VkL n (v :: vs) (v' :: vs') = (Vk n v v' ∧ VkL n vs vs'):=by
 apply propext; constructor
 ·intro h; cases h with | cons _ _ _ _ h1 h2=>exact ⟨h1,h2⟩
 ·rintro ⟨h1,h2⟩; exact .cons _ _ _ _ h1 h2
@[go_sem] theorem Q1e {n : Nat} {l l' : List Int} : VkL n (iC l) (iC l') = (l = l'):=by
 apply propext; constructor
 ·intro h
  induction l generalizing l' with
  | nil=>cases l' with | nil=>rfl | cons _ _=>cases h
  | cons x l ih =>
   cases l' with
   | nil=>cases h
   | cons y l' =>
    have h : VkL n (I x :: iC l) (I y :: iC l'):=h
    rw [Y9b,Z3K] at h
    simp only [Value.int.injEq,true_and] at h
    rw [h.1,ih h.2]
 ·rintro rfl
  refine VkL.refl_of ?_
  simp [iC,V.bel]
@[congr] theorem Z6o {n n' : Nat} {v v' u : V} (h0 : n = n') (h : v = v') : Vk n v u = Vk n' v' u:=by rw [h0,h]
section
variable {P : Program} {H : List Ob} {K : V → List Ob → Prop}
theorem callP {g : FuncId} {vs args : List V} {r : V} (h : PC P g args r []) (hl : LeL H .b vs args) (hk : K r H) : callS P (.fn (.func g) [] []) vs H K .mk :=
 .inl ⟨args,r,by simpa using hl,h,hk⟩
theorem callQ {g : FuncId} {vs args : List V} {r : V} {objs : List Ob} (h : PC P g args r objs) (hl : LeL H .b vs args) (hn : ∀ ob ∈ objs,ob.st ≠ .res) (hk : K (r.sh H.length) (H ++ objs.map (Ob.sh H.length))) : callS P (.fn (.func g) [] []) vs H K .mk :=
 .inr ⟨r,objs,.inl ⟨args,by simpa using hl,h⟩,hn,hk⟩
theorem callB {g : FuncId} {vs : List V} {r : V} {objs : List Ob} (h : PB P g vs r objs) (hl : ∀ v ∈ vs,v.fl2) (hn : ∀ ob ∈ objs,ob.st ≠ .res) (hk : K (r.sh H.length) (H ++ objs.map (Ob.sh H.length))) : callS P (.fn (.func g) [] []) vs H K .mk :=
 .inr ⟨r,objs,.inr ⟨by simpa using hl,by simpa using h⟩,hn,hk⟩
end
theorem LeL.one' {H : List Ob} {f : Fl} {v v' : V} (h : Le H f v v') : LeL H f [v] [v']:=.cons _ _ _ _ h .nil
attribute [go_sem] forall_eq' Bool.not_true Bool.not_false Bool.true_eq_false Bool.false_eq_true decide_eq_true_eq decide_eq_false_iff_not Option.some.injEq Nat.zero_ne_one Nat.one_ne_zero ne_eq not_false_eq_true not_true_eq_false Int.toNat_natCast Nat.mul_one Nat.zero_add Nat.add_zero Nat.zero_mul Nat.sub_zero implies_true and_self or_false false_or or_true true_or Value.int.injEq Value.bool.injEq
theorem loopJ {P : Program} {an : Ann} {c : Code} {Q : AE → St → Prop} {s : St} {d : Tr (c,Q)} {α : Type} (J : α → Prop) (F : α → St) (μ : α → Nat) (x0 : α) (h0 : J x0) (hle : StI an.n0 s (F x0))
  (h : ∀ x,J x → awp P an c (AE.next (fun s'=>∃ y,J y ∧ μ y < μ x ∧ StI an.n0 s' (F y)) Q) (F x)) : loopC P an c Q s d:=by
 refine ⟨{ x // J x },fun x=>F x.1,fun x=>μ x.1,⟨x0,h0⟩,hle,fun x=>?_⟩
 have:=h x.1 x.2
 have e : (fun s'=>∃ y,J y ∧ μ y < μ x.1 ∧ StI an.n0 s' (F y)) = (fun s'=>∃ y : { x // J x },μ y.1 < μ x.1 ∧ StI an.n0 s' (F y.1)):=by
  funext s'
  apply propext
  exact ⟨fun ⟨y,h1,h2⟩=>⟨⟨y,h1⟩,h2⟩,fun ⟨y,h2⟩=>⟨y.1,y.2,h2⟩⟩
 rw [← e]; exact this
theorem loopI {P : Program} {an : Ann} {c : Code} {Q : AE → St → Prop} {s : St} {d : Tr (c,Q)} {α : Type} (J : α → Prop) (F : α → St) (μ : α → Nat) (x0 : α) (h0 : J x0) (hle : StLe an.n0 s (F x0))
  (h : ∀ x,J x → awp P an c (AE.next (fun s'=>∃ y,J y ∧ μ y < μ x ∧ StLe an.n0 s' (F y)) Q) (F x)) : loopC P an c Q s d:=by
 refine loopJ J F μ x0 h0 hle.sti fun x hx=>Q5h (fun e s hq=>?_) (h x hx)
 cases e with
 | normal=>obtain ⟨y,h1,h2,h3⟩:=hq; exact ⟨y,h1,h2,h3.sti⟩
 | exit id=>exact hq
 | ret=>exact hq
@[go_sem] theorem J0j {H : List Ob} {f : Fl} : LeL H f [] [] = True:=by apply propext; exact ⟨fun _=>trivial,fun _=>.nil⟩
@[go_sem] theorem Z7m {H : List Ob} {f : Fl} {v v' : V} {vs vs' : List V} : LeL H f (v :: vs) (v' :: vs') = (Le H f v v' ∧ LeL H f vs vs'):=by
 apply propext; constructor
 ·intro h; cases h with | cons _ _ _ _ h1 h2=>exact ⟨h1,h2⟩
 ·rintro ⟨h1,h2⟩; exact .cons _ _ _ _ h1 h2
@[go_sem] theorem J2c {H : List Ob} {f : Fl} {a b : Value} : Le H f (.lit a) (.lit b) = (a = b):=by
 apply propext; constructor
 ·intro h; cases h; rfl
 ·rintro rfl; exact .lit _
@[go_sem] theorem J2e {H : List Ob} {f : Fl} {a b : List V} : Le H f (.agg a) (.agg b) = LeL H f a b:=by
 apply propext; constructor
 ·intro h; cases h; assumption
 ·exact .agg _ _
@[go_sem] theorem J1X {H : List Ob} {f : Fl} {n : Nat} {l : List Int} : Le H f (.sl .s 1 n (iC l)) (.sl .s 1 n (iC l)) = True:=by
 apply propext; exact ⟨fun _=>trivial,fun _=>.sl _ _ _ _ _ _ (.inl rfl) LeL.lits⟩
@[go_sem] theorem J1Y {H : List Ob} {g : Fl} {n : Nat} {l : List Int} : Le H .b (.sl g 1 n (iC l)) (.sl g 1 n (iC l)) = (g ≠ .u):=by
 apply propext; constructor
 ·rintro h rfl
  cases h with | sl _ _ _ _ _ _ h _=>cases h
 ·intro h
  cases g
  ·exact .sl _ _ _ _ _ _ (.inl rfl) LeL.lits
  ·exact .sl _ _ _ _ _ _ ⟨rfl,rfl⟩ LeL.lits
  ·exact absurd rfl h
@[go_sem] theorem J2d {H : List Ob} {f : Fl} {g : FuncId} : Le H f (.fn (.func g) [] []) (.fn (.func g) [] []) = True:=by
 apply propext; exact ⟨fun _=>trivial,fun _=>.fn _ _ _ _ _ .nil .nil⟩
attribute [go_sem] List.length_drop List.length_take
def V.nb : V → Prop
 | .ptr .b _ | .sl .b _ _ _=>False
 | _=>True
mutual
inductive Rn (H : List Ob) : List (Option Nat) → Bool → V → V → List Nat → Prop
 | any (js : List (Option Nat)) (bk : Bool) (v : V) : Rn H js bk v .any []
 | same (js : List (Option Nat)) (bk : Bool) (v : V) : v.flat → (bk = false → v.nb) → Rn H js bk v v []
 | esl (js : List (Option Nat)) (bk : Bool) (f : Fl) (sz : Nat) : Rn H js bk .emp (.sl f sz 0 []) []
 | sb (js : List (Option Nat)) (bk : Bool) (sz k : Nat) (cs : List V) : Rn H js bk (.sl .s sz k cs) (.sl .b sz k cs) []
 | ref (js : List (Option Nat)) (bk : Bool) (id i off : Nat) : js[i]? = some (some id) → Rn H js bk (.ref id off) (.ref i off) []
 | rsl (js : List (Option Nat)) (bk : Bool) (id i sz o n : Nat) : js[i]? = some (some id) → Rn H js bk (.rsl id sz o n) (.rsl i sz o n) []
 | mp (js : List (Option Nat)) (bk : Bool) (id i : Nat) : js[i]? = some (some id) → Rn H js bk (.mp id) (.mp i) []
 | new (js : List (Option Nat)) (bk : Bool) (i sz : Nat) : js[i]? = some none → Rn H js bk .emp (.rsl i sz 0 0) []
 | rslz (js : List (Option Nat)) (bk : Bool) (id sz o n : Nat) (ob : Ob) : H[id]? = some ob → ob.st = .frz → o * sz + n * sz ≤ ob.cs.length → (∀ c ∈ (ob.cs.drop (o * sz)).take (n * sz),c.cl) → Rn H js bk (.rsl id sz o n) (.sl .s sz n ((ob.cs.drop (o * sz)).take (n * sz))) []
 | refz (js : List (Option Nat)) (bk : Bool) (id off : Nat) (ob : Ob) : H[id]? = some ob → ob.st = .frz → (∀ c ∈ ob.cs.drop off,c.cl) → Rn H js bk (.ref id off) (.ptr .s (ob.cs.drop off)) []
 | rslb (js : List (Option Nat)) (id sz o n : Nat) (ob : Ob) : H[id]? = some ob → ob.st = .frz → o * sz + n * sz ≤ ob.cs.length → (∀ c ∈ (ob.cs.drop (o * sz)).take (n * sz),c.flat) → Rn H js true (.rsl id sz o n) (.sl .b sz n ((ob.cs.drop (o * sz)).take (n * sz))) []
 | refb (js : List (Option Nat)) (id off : Nat) (ob : Ob) : H[id]? = some ob → ob.st = .frz → (∀ c ∈ ob.cs.drop off,c.flat) → Rn H js true (.ref id off) (.ptr .b (ob.cs.drop off)) []
 | cl (js : List (Option Nat)) (bk : Bool) (k sz n : Nat) (ob : Ob) (cs' : List V) (ks : List Nat) : H[k]? = some ob → ob.st = .own → n * sz ≤ ob.cs.length → RnL H [] false (ob.cs.take (n * sz)) cs' ks → Rn H js bk (.rsl k sz 0 n) (.sl .u sz n cs') (k :: ks)
 | clp (js : List (Option Nat)) (bk : Bool) (k : Nat) (ob : Ob) (cs' : List V) (ks : List Nat) : H[k]? = some ob → ob.st = .own → ob.cs ≠ [] → RnL H [] false ob.cs cs' ks → Rn H js bk (.ref k 0) (.ptr .u cs') (k :: ks)
 | agg (js : List (Option Nat)) (bk : Bool) (vs vs' : List V) (ks : List Nat) : RnL H js bk vs vs' ks → Rn H js bk (.agg vs) (.agg vs') ks
 | tup (js : List (Option Nat)) (bk : Bool) (vs vs' : List V) (ks : List Nat) : RnL H js bk vs vs' ks → Rn H js bk (.tup vs) (.tup vs') ks
 | fn (js : List (Option Nat)) (bk : Bool) (f : Fn) (fs fs' cs cs' : List V) : RnL H js bk fs fs' [] → RnL H js bk cs cs' [] → Rn H js bk (.fn f fs cs) (.fn f fs' cs') []
inductive RnL (H : List Ob) : List (Option Nat) → Bool → List V → List V → List Nat → Prop
 | nil (js : List (Option Nat)) (bk : Bool) : RnL H js bk [] [] []
 | cons (js : List (Option Nat)) (bk : Bool) (v v' : V) (vs vs' : List V) (k1 k2 : List Nat) : Rn H js bk v v' k1 → RnL H js bk vs vs' k2 → RnL H js bk (v :: vs) (v' :: vs') (k1 ++ k2)
end
theorem RnL.length {H : List Ob} : ∀ {js : List (Option Nat)} {bk : Bool} {cs cs' : List V} {ks : List Nat},RnL H js bk cs cs' ks → cs.length = cs'.length
 | _,_,_,_,_,.nil _ _=>rfl
 | _,_,_,_,_,.cons _ _ _ _ _ _ _ _ _ h=>by simp [h.length]
def usOf (uss : List (List Nat)) (ks : List Nat) : List Nat:=ks.flatMap fun k=>(uss[k]?).getD []
theorem Q4f (uss : List (List Nat)) (k1 k2 : List Nat) : usOf uss (k1 ++ k2) = usOf uss k1 ++ usOf uss k2:=by simp [usOf]
theorem Q5y (uss : List (List Nat)) (k : Nat) (ks : List Nat) : usOf uss (k :: ks) = (uss[k]?).getD [] ++ usOf uss ks:=by simp [usOf]
structure RnOk (κ κ' : KM) (B B' : BS) (js : List (Option Nat)) (bk : Bool) : Prop where
 k : ∀ (i id : Nat) (x : Option Nat),js[i]? = some (some id) → kat κ id = some x → kat κ' i = some x
 n : ∀ (i : Nat),js[i]? = some none → kat κ' i = some none
 b : bk = true → ∀ b,B b → B' b
theorem RnOk.nil (κ : KM) (B : BS) : RnOk κ [] B (fun _=>False) [] false:=⟨fun _ _ _ h=>by simp at h,fun _ h=>by simp at h,fun h=>by cases h⟩
theorem Rep.nbf {w : World} {S B B' : BS} {κ κ' : KM} {v : V} {x : Value} {us : List Nat} (hf : v.flat) (hn : v.nb) (h : Rep w S B κ v x us) : Rep w S B' κ' v x us:=by
 cases v with
 | any=>exact h
 | lit _=>exact h
 | emp=>exact h
 | ptr f cs =>
  cases f with
  | s=>exact h
  | b=>exact hn.elim
  | u=>exact h
 | sl f sz n cs =>
  cases f with
  | s=>exact h
  | b=>exact hn.elim
  | u=>exact h
 | agg _=>exact hf.elim
 | tup _=>exact hf.elim
 | fn _ _ _=>exact hf.elim
 | ref _ _=>exact hf.elim
 | mp _=>exact hf.elim
 | rsl _ _ _ _=>exact hf.elim
section
variable {E : Env} {H : List Ob} {w : World} {κ : KM} {S : BS} {uss : List (List Nat)}
theorem Q3b {l : List Nat} (h : ∀ b,l.count b ≤ 0) : l = []:=by
 cases l with
 | nil=>rfl
 | cons a l=>have:=h a; simp at this
mutual
theorem Rn.sound (h : Hp E H w κ S uss) : ∀ {js : List (Option Nat)} {bk : Bool} {v v' : V} {ks : List Nat},Rn H js bk v v' ks → ∀ {κ' : KM} {B' : BS},RnOk κ κ' E.B B' js bk → ∀ {x : Value} {us : List Nat},Rep w S E.B κ v x us →
  ∃ us',Rep w S B' κ' v' x us' ∧ ∀ b,us'.count b ≤ us.count b + (usOf uss ks).count b
 | _,_,_,_,_,.any _ _ v,κ',B',ok,x,us,hr=>⟨[],rfl,by simp⟩
 | _,_,_,_,_,.same _ bk v hf hn,κ',B',ok,x,us,hr=>by
  refine ⟨us, ?_,fun b=>by simp [usOf]⟩
  cases bk with
  | true=>exact Rep.flat hf (ok.b rfl) hr
  | false=>exact Rep.nbf hf (hn rfl) hr
 | _,_,_,_,_,.esl _ _ f sz,κ',B',ok,x,us,⟨h0,a,e⟩=>by
  subst h0; subst e
  exact ⟨[],⟨a,0,rfl,Nat.le_refl _,Nat.zero_le _,by simp,.inl ⟨rfl,rfl,fun _=>rfl⟩⟩,by simp⟩
 | _,_,_,_,_,.sb _ _ sz k cs,κ',B',ok,x,us,⟨a,c,h1,h2,h3,h4,h5⟩=>by
  refine ⟨us,⟨a,c,h1,h2,h3,h4,h5.imp (fun h=>⟨h.1,h.2.1,fun h=>by cases h⟩) ?_⟩,fun b=>by simp [usOf]⟩
  rintro ⟨b,o,u,e,h6,h7⟩
  exact ⟨b,o,u,e,Mem.ext [] [] ⟨fun _ h=>h,fun _ h=>h.elim,fun _ _ h=>h,fun _ _ h=>h,fun _ _ _=>rfl⟩ _ _ _ _ (fun _=>rfl) (fun _ _ _=>rfl) h6,.inl h7.1,h7.2⟩
 | _,_,_,_,_,.ref js bk id i off hj,κ',B',ok,x,us,⟨h0,b,h1,h2⟩=>⟨us,⟨h0,b,ok.k _ _ _ hj h1,h2⟩,fun b=>by simp [usOf]⟩
 | _,_,_,_,_,.rsl js bk id i sz o n hj,κ',B',ok,x,us,⟨h0,h1⟩ =>
  ⟨us,⟨h0,h1.imp (fun q=>⟨ok.k _ _ _ hj q.1,q.2⟩) fun ⟨b,c,q,r⟩=>⟨b,c,ok.k _ _ _ hj q,r⟩⟩,fun b=>by simp [usOf]⟩
 | _,_,_,_,_,.mp js bk id i hj,κ',B',ok,x,us,⟨h0,b,h1,h2⟩=>⟨us,⟨h0,b,ok.k _ _ _ hj h1,h2⟩,fun b=>by simp [usOf]⟩
 | _,_,_,_,_,.new js bk i sz hj,κ',B',ok,x,us,⟨h0,a,e⟩=>by
  subst h0; subst e
  exact ⟨[],⟨rfl,.inl ⟨ok.n _ hj,rfl,rfl,a,rfl⟩⟩,by simp⟩
 | _,_,_,_,_,.rslz js bk id sz o n ob hi ht hle hl,κ',B',ok,x,us,⟨h0,hr⟩=>by
  subst h0
  refine ⟨[], ?_,by simp⟩
  have hlen : ((ob.cs.drop (o * sz)).take (n * sz)).length = n * sz:=by rw [List.length_take,List.length_drop]; omega
  rcases hr with ⟨h1,rfl,rfl,a,rfl⟩ | ⟨b,c,h1,rfl,h3,h4,h5⟩
  ·exact ⟨a,0,rfl,Nat.le_refl _,Nat.zero_le _,hlen,.inl ⟨rfl,rfl,fun _=>rfl⟩⟩
  ·rcases h.leok.cells hi (.inr ht) h1 with ⟨hx,_⟩ | ⟨b',u,hb',hfz,hfl,hux,hm⟩
   ·cases hx
   ·obtain rfl : b = b':=by simpa using hb'
    obtain ⟨u2,hu2,hm2⟩:=hm.drop (o * sz) (by omega)
    obtain ⟨u3,hu3,hm3⟩:=hm2.take (n * sz)
    obtain rfl:=hm3.cl_us hl
    rw [Nat.zero_add] at hm3
    exact ⟨_,c,rfl,h3,h4,hlen,.inr ⟨b,o * sz,[],rfl,hm3.cl (fun _ h=>h) hl,(hfz ht).1,rfl,rfl⟩⟩
 | _,_,_,_,_,.refz js bk id off ob hi ht hl,κ',B',ok,x,us,⟨h0,b,h1,e⟩=>by
  subst h0; subst e
  refine ⟨[], ?_,by simp⟩
  rcases h.leok.cells hi (.inr ht) h1 with ⟨hx,_⟩ | ⟨b',u,hb',hfz,hfl,hux,hm⟩
  ·cases hx
  ·obtain rfl : b = b':=by simpa using hb'
   refine ⟨b,off,[],rfl, ?_,(hfz ht).1,rfl,rfl⟩
   by_cases hle : off ≤ ob.cs.length
   ·obtain ⟨u2,hu2,hm2⟩:=hm.drop off hle
    obtain rfl:=hm2.cl_us hl
    rw [Nat.zero_add] at hm2
    exact hm2.cl (fun _ h=>h) hl
   ·rw [List.drop_eq_nil_of_le (by omega)]; rfl
 | _,_,_,_,_,.rslb js id sz o n ob hi ht hle hl,κ',B',ok,x,us,⟨h0,hr⟩=>by
  subst h0
  refine ⟨[], ?_,by simp⟩
  have hlen : ((ob.cs.drop (o * sz)).take (n * sz)).length = n * sz:=by rw [List.length_take,List.length_drop]; omega
  rcases hr with ⟨h1,rfl,rfl,a,rfl⟩ | ⟨b,c,h1,rfl,h3,h4,h5⟩
  ·exact ⟨a,0,rfl,Nat.le_refl _,Nat.zero_le _,hlen,.inl ⟨rfl,rfl,fun h=>by cases h⟩⟩
  ·rcases h.leok.cells hi (.inr ht) h1 with ⟨hx,_⟩ | ⟨b',u,hb',hfz,hfl,hux,hm⟩
   ·cases hx
   ·obtain rfl : b = b':=by simpa using hb'
    obtain rfl:=(hfz ht).2
    obtain ⟨u2,hu2,hm2⟩:=hm.drop (o * sz) (by omega)
    obtain rfl : u2 = []:=List.eq_nil_iff_forall_not_mem.2 fun x hx=>by have:=hu2 x hx; simp at this
    obtain ⟨u3,hu3,hm3⟩:=hm2.take (n * sz)
    obtain rfl : u3 = []:=List.eq_nil_iff_forall_not_mem.2 fun x hx=>by have:=hu3 x hx; simp at this
    rw [Nat.zero_add] at hm3
    exact ⟨_,c,rfl,h3,h4,hlen,.inr ⟨b,o * sz,[],rfl,Mem.flat (ok.b rfl) hl hm3,.inl (hfz ht).1,rfl,rfl⟩⟩
 | _,_,_,_,_,.refb js id off ob hi ht hl,κ',B',ok,x,us,⟨h0,b,h1,e⟩=>by
  subst h0; subst e
  refine ⟨[], ?_,by simp⟩
  rcases h.leok.cells hi (.inr ht) h1 with ⟨hx,_⟩ | ⟨b',u,hb',hfz,hfl,hux,hm⟩
  ·cases hx
  ·obtain rfl : b = b':=by simpa using hb'
   obtain rfl:=(hfz ht).2
   refine ⟨b,off,[],rfl, ?_,.inl (hfz ht).1,rfl,rfl⟩
   by_cases hle : off ≤ ob.cs.length
   ·obtain ⟨u2,hu2,hm2⟩:=hm.drop off hle
    obtain rfl : u2 = []:=List.eq_nil_iff_forall_not_mem.2 fun x hx=>by have:=hu2 x hx; simp at this
    rw [Nat.zero_add] at hm2
    exact Mem.flat (ok.b rfl) hl hm2
   ·rw [List.drop_eq_nil_of_le (by omega)]; rfl
 | _,_,_,_,_,.cl js bk k sz n ob cs' ks hi ht hle hl,κ',B',ok,x,us,⟨h0,hr⟩=>by
  subst h0
  have hll:=hl.length
  have hlen : cs'.length = n * sz:=by rw [← hll,List.length_take]; omega
  rcases h.own hi ht with ⟨q1,q2,q3⟩ | ⟨b,arr,u,q1,q2,q3,q4⟩
  ·rcases hr with ⟨h1,rfl,_,a,rfl⟩ | ⟨b,c,h1,_⟩
   ·refine ⟨[],⟨a,0,rfl,Nat.le_refl _,Nat.zero_le _,hlen,.inl ⟨rfl,rfl,fun _=>rfl⟩⟩,by simp⟩
   ·rw [q1] at h1; cases h1
  ·rcases hr with ⟨h1,_⟩ | ⟨b',c,h1,rfl,h3,h4,h5⟩
   ·rw [q1] at h1; cases h1
   ·obtain rfl : b = b':=by rw [q1] at h1; simpa using h1
    rw [← List.take_append_drop (n * sz) ob.cs] at q4
    obtain ⟨u1,u2,e,hm,_⟩:=Mem.append.1 q4
    obtain ⟨u',m1,m2⟩:=RnL.mem h hl (RnOk.nil κ E.B) hm
    refine ⟨b :: u',⟨_,c,rfl,h3,h4,hlen,.inr ⟨b,0,u',by simp,m1,rfl,rfl,by simpa using h5⟩⟩,fun b'=>?_⟩
    rw [Q5y,q2,Option.getD_some,e]
    have:=m2 b'
    simp only [List.count_cons,List.count_append,List.count_nil]
    omega
 | _,_,_,_,_,.clp js bk k ob cs' ks hi ht hne hl,κ',B',ok,x,us,⟨h0,b,h1,e⟩=>by
  subst h0; subst e
  rcases h.own hi ht with ⟨q1,q2,q3⟩ | ⟨b',arr,u,q1,q2,q3,q4⟩
  ·exact absurd q2 hne
  ·obtain rfl : b = b':=by rw [q1] at h1; simpa using h1.symm
   obtain ⟨u',m1,m2⟩:=RnL.mem h hl (RnOk.nil κ E.B) q4
   obtain ⟨ty,q3⟩:=q3
   refine ⟨b :: u',⟨b,0,u',rfl,m1,rfl,rfl,_,arr,ty,q3,rfl⟩,fun b'=>?_⟩
   rw [Q5y,q2,Option.getD_some]
   have:=m2 b'
   simp only [List.count_cons,List.count_append,List.count_nil]
   omega
 | _,_,_,_,_,.agg js bk vs vs' ks hl,κ',B',ok,x,us,⟨xs,h1,h2⟩=>by
  obtain ⟨us',e1,e2⟩:=RnL.rep h hl ok h2
  exact ⟨us',⟨xs,h1,e1⟩,e2⟩
 | _,_,_,_,_,.tup js bk vs vs' ks hl,κ',B',ok,x,us,⟨xs,h1,h2⟩=>by
  obtain ⟨us',e1,e2⟩:=RnL.rep h hl ok h2
  exact ⟨us',⟨xs,h1,e1⟩,e2⟩
 | _,_,_,_,_,.fn js bk f fs fs' cs cs' hf hc,κ',B',ok,x,us,⟨h0,ys,zs,h1,h2,h3⟩=>by
  obtain ⟨u1,e1,e2⟩:=RnL.rep h hf ok h2
  obtain ⟨u2,e3,e4⟩:=RnL.rep h hc ok h3
  obtain rfl:=Q3b (l:=u1) (fun b=>by have:=e2 b; simpa [usOf] using this)
  obtain rfl:=Q3b (l:=u2) (fun b=>by have:=e4 b; simpa [usOf] using this)
  exact ⟨[],⟨rfl,ys,zs,h1,e1,e3⟩,by simp⟩
theorem RnL.rep (h : Hp E H w κ S uss) : ∀ {js : List (Option Nat)} {bk : Bool} {vs vs' : List V} {ks : List Nat},RnL H js bk vs vs' ks → ∀ {κ' : KM} {B' : BS},RnOk κ κ' E.B B' js bk → ∀ {xs : List Value} {us : List Nat},RepL w S E.B κ vs xs us →
  ∃ us',RepL w S B' κ' vs' xs us' ∧ ∀ b,us'.count b ≤ us.count b + (usOf uss ks).count b
 | _,_,_,_,_,.nil _ _,κ',B',ok,xs,us,hr=>⟨[],⟨hr.1,rfl⟩,by simp⟩
 | _,_,_,_,_,.cons _ _ v v' vs vs' k1 k2 h1 h2,κ',B',ok,xs,us,⟨x,xs',u1,u2,e1,e2,e3,e4⟩=>by
  obtain ⟨a,f1,f2⟩:=Rn.sound h h1 ok e3
  obtain ⟨c,f3,f4⟩:=RnL.rep h h2 ok e4
  refine ⟨a ++ c,⟨x,xs',a,c,e1,rfl,f1,f3⟩,fun b=>?_⟩
  have:=f2 b
  have:=f4 b
  rw [e2,Q4f]
  simp only [List.count_append]
  omega
theorem RnL.mem (h : Hp E H w κ S uss) : ∀ {js : List (Option Nat)} {bk : Bool} {cs cs' : List V} {ks : List Nat},RnL H js bk cs cs' ks → ∀ {κ' : KM} {B' : BS},RnOk κ κ' E.B B' js bk → ∀ {b o : Nat} {us : List Nat},Mem w S E.B κ cs b o us →
  ∃ us',Mem w S B' κ' cs' b o us' ∧ ∀ b,us'.count b ≤ us.count b + (usOf uss ks).count b
 | _,_,_,_,_,.nil _ _,κ',B',ok,_,_,us,hr=>⟨[],rfl,by simp⟩
 | _,_,_,_,_,.cons _ _ v v' vs vs' k1 k2 h1 h2,κ',B',ok,_,_,us,⟨x,u1,u2,e1,e2,e3,e4⟩=>by
  obtain ⟨a,f1,f2⟩:=Rn.sound h h1 ok e3
  obtain ⟨c,f3,f4⟩:=RnL.mem h h2 ok e4
  refine ⟨a ++ c,⟨x,a,c,e1,rfl,f1,f3⟩,fun b=>?_⟩
  have:=f2 b
  have:=f4 b
  rw [e2,Q4f]
  simp only [List.count_append]
  omega
end
end
def kj (κ : KM) : Option Nat → Option (Option Nat)
 | none=>some none
 | some id=>kat κ id
def ob1 (H : List Ob) (js : List (Option Nat)) (bk : Bool) (j : Option Nat) (ob' : Ob) (ks : List Nat) : Prop :=
 ob'.st = .dead ∨ match j with
  | none=>ob'.st = .own ∧ ob'.cs = []
  | some id=>∃ ob,H[id]? = some ob ∧ ob.st = ob'.st ∧ (ob'.st = .own ∨ ((ob'.st = .frz ∨ ob'.st = .mp) ∧ ks = [])) ∧ RnL H js bk ob.cs ob'.cs ks
def obRn (H : List Ob) (js : List (Option Nat)) (bk : Bool) : List Ob → List (Option Nat) → List (List Nat) → Prop
 | [],[],[]=>True
 | ob' :: H',j :: js',ks :: kss=>ob1 H js bk j ob' ks ∧ obRn H js bk H' js' kss
 | _,_,_=>False
def tmRn (H : List Ob) (js : List (Option Nat)) (s : St) : List (Nat × V) → Prop
 | []=>True
 | (t,v) :: r=>Rn H js true (s.get t) v [] ∧ tmRn H js s r
def idpre : Nat → Nat → List (Option Nat) → Prop
 | 0,_,_=>True
 | n + 1,i,j :: js=>j = some i ∧ idpre n (i + 1) js
 | _ + 1,_,[]=>False
section
variable {E : Env} {H : List Ob} {w : World} {κ : KM} {S : BS} {uss : List (List Nat)}
theorem X9W : ∀ {n i : Nat} {js : List (Option Nat)},idpre n i js → ∀ m,m < n → js[m]? = some (some (i + m))
 | 0,_,_,_,m,h=>by omega
 | n + 1,i,[],h,_,_=>h.elim
 | n + 1,i,j :: js,h,m,hm=>by
  cases m with
  | zero=>simp [h.1]
  | succ m=>have:=X9W h.2 m (by omega); simpa [Nat.add_assoc,Nat.add_comm 1] using this
theorem X4H (hn : uss.flatten.Nodup) : ∀ {L : List Nat},L.Nodup → (usOf uss L).Nodup
 | [],_=>by simp [usOf]
 | k :: L,h=>by
  obtain ⟨h1,h2⟩:=List.nodup_cons.1 h
  rw [Q5y,List.nodup_append]
  cases e : uss[k]? with
  | none=>simpa using X4H hn h2
  | some us =>
   simp only [Option.getD_some]
   refine ⟨Q0q hn (List.mem_of_getElem? e),X4H hn h2, ?_⟩
   rintro a ha b hb rfl
   obtain ⟨k',hk',hb⟩:=List.mem_flatMap.1 hb
   cases e' : uss[k']? with
   | none=>rw [e'] at hb; simp at hb
   | some us' =>
    rw [e'] at hb
    exact Q0j hn e e' (by rintro rfl; exact h1 hk') a ha hb
theorem Y9c {L : List Nat} {b : Nat} (h : b ∈ usOf uss L) : b ∈ uss.flatten:=by
 obtain ⟨k,_,hb⟩:=List.mem_flatMap.1 h
 cases e : uss[k]? with
 | none=>rw [e] at hb; simp at hb
 | some us=>rw [e] at hb; exact List.mem_flatten.2 ⟨us,List.mem_of_getElem? e,hb⟩
theorem ob1.sound (h : Hp E H w κ S uss) {js : List (Option Nat)} {bk : Bool} {κ' : KM} {B' : BS} (ok : RnOk κ κ' E.B B' js bk) {j : Option Nat} {ob' : Ob} {ks : List Nat} (ho : ob1 H js bk j ob' ks) :
  ∃ us',(∀ k,kj κ j = some k → ObR w S B' κ' ob' k us') ∧ (∀ b,us'.count b ≤ (usOf uss (j.toList ++ ks)).count b) ∧ (ob'.st = .own ∨ ob'.st = .frz → ∃ k,kj κ j = some k):=by
 obtain ⟨st,ty,cs⟩:=ob'
 rcases ho with hd | ho
 ·obtain rfl : st = .dead:=hd
  exact ⟨[],fun k _=>rfl,by simp,by intro h; rcases h with h | h <;> cases h⟩
 ·cases j with
  | none =>
   obtain ⟨h1,h2⟩:=ho
   obtain rfl : st = .own:=h1
   obtain rfl : cs = []:=h2
   refine ⟨[],fun k hk=>?_,by simp,fun _=>⟨none,rfl⟩⟩
   obtain rfl : none = k:=by simpa [kj] using hk
   exact .inl ⟨rfl,rfl,rfl⟩
  | some id =>
   obtain ⟨ob,h1,h2,h3,h4⟩:=ho
   have h2 : ob.st = st:=h2
   have hlt : id < uss.length:=by rw [h.ul]; exact (List.getElem?_eq_some_iff.1 h1).1
   have hu0 : uss[id]? = some uss[id]:=List.getElem?_eq_getElem hlt
   rcases (show (st = .own ∨ (st = .frz ∧ ks = [])) ∨ (st = .mp ∧ ks = []) by
    rcases h3 with h3 | ⟨h3 | h3,h5⟩
    ·exact .inl (.inl h3)
    ·exact .inl (.inr ⟨h3,h5⟩)
    ·exact .inr ⟨h3,h5⟩) with h3 | ⟨rfl,rfl⟩
   rotate_left
   ·cases hk : kat κ id with
    | none=>exact ⟨[],fun k hk'=>(by have hk' : kat κ id = some k:=hk'; rw [hk] at hk'; cases hk'),by simp,by intro h; rcases h with h | h <;> cases h⟩
    | some k0 =>
     have hr:=h.ob id ob k0 _ h1 hk hu0
     obtain ⟨st0,ty0,cs0⟩:=ob
     obtain rfl : st0 = .mp:=h2
     obtain ⟨b,es,ck,q1,q2,q3,q4⟩:=hr
     obtain ⟨u',m1,m2⟩:=RnL.rep h h4 ok q4
     obtain rfl:=Q3b (l:=u') (fun c=>by have:=m2 c; simpa [usOf] using this)
     refine ⟨[b],fun k hk'=>?_,fun c=>?_,by intro h; rcases h with h | h <;> cases h⟩
     ·have hk' : kat κ id = some k:=hk'
      rw [hk] at hk'
      obtain rfl:=Option.some.inj hk'
      exact ⟨b,es,ck,q1,rfl,q3,m1⟩
     ·simp only [Option.toList_some,List.singleton_append]
      rw [Q5y,hu0,Option.getD_some,q2,List.count_append]
      exact Nat.le_add_right _ _
   have hst : ob.st = .own ∨ ob.st = .frz:=by rw [h2]; exact h3.imp (fun h=>h) (fun h=>h.1)
   obtain ⟨k,us,q1,q2,q3⟩:=h.get h1 hst
   obtain ⟨st0,ty0,cs0⟩:=ob
   obtain rfl : st0 = st:=h2
   have key : ∃ us',ObR w S B' κ' ⟨st0,ty,cs⟩ k us' ∧ ∀ b,us'.count b ≤ us.count b + (usOf uss ks).count b:=by
    rcases h3 with rfl | ⟨rfl,rfl⟩
    ·rcases q3 with ⟨e1,e2,e3⟩ | ⟨b,arr,u,e1,e2,e3,e4⟩
     ·have e2 : cs0 = []:=e2
      subst e2
      have : cs = []:=List.eq_nil_of_length_eq_zero (by rw [← h4.length]; rfl)
      subst this
      exact ⟨[],.inl ⟨e1,rfl,rfl⟩,by simp⟩
     ·obtain ⟨u',m1,m2⟩:=RnL.mem h h4 ok e4
      refine ⟨b :: u',.inr ⟨b,arr,u',e1,rfl,e3,m1⟩,fun c=>?_⟩
      have:=m2 c
      rw [e2]; simp only [List.count_cons]; omega
    ·obtain ⟨e0,e⟩:=q3
     refine ⟨[],⟨rfl, ?_⟩,by simp⟩
     rcases e with ⟨e1,e2⟩ | ⟨b,arr,e1,e2,e3,e4⟩
     ·have e2 : cs0 = []:=e2
      subst e2
      exact .inl ⟨e1,List.eq_nil_of_length_eq_zero (by show cs.length = 0; rw [← h4.length]; rfl)⟩
     ·obtain ⟨u',m1,m2⟩:=RnL.mem h h4 ok e4
      obtain rfl:=Q3b (l:=u') (fun c=>by have:=m2 c; simpa [usOf] using this)
      exact .inr ⟨b,arr,e1,e2,e3,m1⟩
   obtain ⟨us',k1,k2⟩:=key
   refine ⟨us',fun k' hk'=>?_,fun b=>?_,fun _=>⟨k,q1⟩⟩
   ·have hk' : kat κ id = some k':=hk'
    rw [q1] at hk'; obtain rfl:=Option.some.inj hk'
    exact k1
   ·have:=k2 b
    simp only [Option.toList_some,List.singleton_append]
    rw [Q5y,q2,Option.getD_some,List.count_append]
    exact this
theorem obRn.sound (h : Hp E H w κ S uss) {js : List (Option Nat)} {bk : Bool} {κ' : KM} {B' : BS} (ok : RnOk κ κ' E.B B' js bk) : ∀ {H' : List Ob} {js' : List (Option Nat)} {kss : List (List Nat)},obRn H js bk H' js' kss →
  ∃ uss' : List (List Nat),uss'.length = H'.length ∧ js'.length = H'.length ∧ (∀ (i : Nat) (ob' : Ob) (j : Option Nat) (us : List Nat),H'[i]? = some ob' → js'[i]? = some j → uss'[i]? = some us → (∀ k,kj κ j = some k → ObR w S B' κ' ob' k us) ∧ (ob'.st = .own ∨ ob'.st = .frz → ∃ k,kj κ j = some k)) ∧
   ∀ b,uss'.flatten.count b ≤ (usOf uss (js'.filterMap id ++ kss.flatten)).count b
 | [],[],[],_=>⟨[],rfl,rfl,by intro i ob' j us h; simp at h,by simp⟩
 | ob' :: H',j :: js',ks :: kss,ho=>by
  obtain ⟨us1,a1,a2,a3⟩:=ob1.sound h ok ho.1
  obtain ⟨uss',b1,b0,b2,b3⟩:=obRn.sound h ok ho.2
  refine ⟨us1 :: uss',by simp [b1],by simp [b0], ?_, ?_⟩
  ·intro i ob2 j2 us h1 h2 h3
   cases i with
   | zero =>
    simp only [List.getElem?_cons_zero,Option.some.injEq] at h1 h2 h3
    subst h1; subst h2; subst h3
    exact ⟨a1,a3⟩
   | succ i=>exact b2 i ob2 j2 us (by simpa using h1) (by simpa using h2) (by simpa using h3)
  ·intro b
   have e1:=a2 b
   have e2:=b3 b
   rw [Q4f] at e1 e2
   rw [List.flatten_cons,Q4f,List.flatten_cons,Q4f]
   have e3 : (usOf uss ((j :: js').filterMap id)).count b = (usOf uss j.toList).count b + (usOf uss (js'.filterMap id)).count b:=by
    cases j with
    | none=>simp [usOf]
    | some n=>rw [List.filterMap_cons_some (f:=id) rfl,Q5y]; simp [usOf]
   simp only [List.count_append] at *
   omega
 | [],[],_ :: _,h=>h.elim
 | [],_ :: _,_,h=>h.elim
 | _ :: _,[],_,h=>h.elim
 | _ :: _,_ :: _,[],h=>h.elim
theorem Hp.ren (h : Hp E H w κ S uss) {js : List (Option Nat)} {bk : Bool} {H' : List Ob} {kss : List (List Nat)} {B' : BS} {n0 : Nat} (hn0 : E.K0.length ≤ n0) (hid : idpre n0 0 js) (hob : obRn H js bk H' js kss) (hlin : (js.filterMap id ++ kss.flatten).Nodup) (hB : bk = true → B' = E.B) (hB2 : ∀ b,B' b → E.B b) :
  ∃ κ' uss',Hp { E with B:=B' } H' w κ' S uss' ∧ ∀ (v v' : V) (x : Value),Rn H js bk v v' [] → Rep w S E.B κ v x [] → Rep w S B' κ' v' x []:=by
 let κ' : KM:=js.map fun o=>kj κ o
 have hκ : ∀ (i : Nat) (j : Option Nat),js[i]? = some j → kat κ' i = kj κ j:=by
  intro i j hj
  show (κ'[i]?).join = _
  simp only [κ',List.getElem?_map,hj,Option.map_some]
  rfl
 have ok : RnOk κ κ' E.B B' js bk:=⟨fun i id x hj hx=>by rw [hκ i _ hj]; exact hx,fun i hj=>by rw [hκ i _ hj]; rfl,fun hb b hE=>by rw [hB hb]; exact hE⟩
 obtain ⟨uss',l1,l2,hobr,hcnt⟩:=hob.sound h ok
 have hnd:=X4H h.nd hlin
 have hc1 : ∀ b,uss'.flatten.count b ≤ 1:=fun b=>Nat.le_trans (hcnt b) (List.nodup_iff_count.1 hnd b)
 have hmem : ∀ b ∈ uss'.flatten,b ∈ uss.flatten:=by
  intro b hb
  have h1:=List.count_pos_iff.2 hb
  have h2:=hcnt b
  exact Y9c (L:=js.filterMap id ++ kss.flatten) (List.count_pos_iff.1 (by omega))
 refine ⟨κ',uss',{ kl:=by simp [κ',l2],al:=?_,ul:=l1,ob:=?_,nd:=List.nodup_iff_count.2 hc1,ow:=?_,sb:=h.sb,s0:=h.s0,s1:=h.s1,bb:=fun b hb=>h.bb b (hB2 b hb),kp:=h.kp,kk:=?_ }, ?_⟩
 ·intro i ob' hi st
  have hlt:=(List.getElem?_eq_some_iff.1 hi).1
  obtain ⟨k,hk⟩:=(hobr i ob' js[i] uss'[i] hi (List.getElem?_eq_getElem (by omega)) (List.getElem?_eq_getElem (by omega))).2 st
  exact ⟨k,by rw [hκ i _ (List.getElem?_eq_getElem (by omega))]; exact hk⟩
 ·intro i ob' k us hi hki hui
  have hlt:=(List.getElem?_eq_some_iff.1 hi).1
  have hj : js[i]? = some js[i]:=List.getElem?_eq_getElem (by omega)
  rw [hκ i _ hj] at hki
  exact (hobr i ob' _ us hi hj hui).1 k hki
 ·intro b hb
  obtain ⟨q1,q2,q3,q4⟩:=h.ow b (hmem b hb)
  exact ⟨q1,fun hB=>q2 (hB2 b hB),q3,q4⟩
 ·intro id x hx
  have hlt : id < E.K0.length:=Y4V hx
  have hj:=X9W hid id (by omega)
  rw [Nat.zero_add] at hj
  rw [hκ id _ hj]
  exact h.kk id x hx
 ·intro v v' x hrn hr
  obtain ⟨us',e1,e2⟩:=Rn.sound h hrn ok hr
  obtain rfl:=Q3b (l:=us') (fun b=>by have:=e2 b; simpa [usOf] using this)
  exact e1
theorem StI.ren {n0 : Nat} {tm tm' : List (Nat × V)} {H H' : List Ob} (js : List (Option Nat)) (kss : List (List Nat)) (hid : idpre n0 0 js) (hlin : (js.filterMap id ++ kss.flatten).Nodup) (hob : obRn H js true H' js kss) (htm : tmRn H js ⟨tm,H⟩ tm') : StI n0 ⟨tm,H⟩ ⟨tm',H'⟩:=by
 rintro E a w hn ⟨κ,S,uss,hc⟩
 obtain ⟨κ',uss',hp,hv⟩:=hc.toHp.ren (B':=E.B) hn hid hob hlin (fun _=>rfl) (fun _ h=>h)
 refine ⟨κ',S,uss',hp, ?_,hc.df,hc.sz⟩
 have key : ∀ (l : List (Nat × V)),tmRn H js ⟨tm,H⟩ l → ∀ t v,l.lookup t = some v → Rn H js true (St.get ⟨tm,H⟩ t) v []:=by
  intro l
  induction l with
  | nil=>intro _ t v h; simp at h
  | cons p l ih =>
   obtain ⟨t0,v0⟩:=p
   intro hl t v h
   rw [List.lookup_cons] at h
   by_cases e : t = t0
   ·subst e; simp at h; subst h; exact hl.1
   ·have : (t == t0) = false:=by simpa using e
    rw [this] at h; exact ih hl.2 t v h
 intro t v ht
 exact hv _ _ _ (key tm' htm t v ht) (hc.ev (.tmp t))
theorem RtG.ren {n0 : Nat} {H H1 : List Ob} {v r : V} (js : List (Option Nat)) (kss : List (List Nat)) (hid : idpre n0 0 js) (hlin : (js.filterMap id ++ kss.flatten).Nodup) (hob : obRn H js false H1 js kss) (hv : Rn H js false v r []) : RtG n0 H v r H1:=by
 intro E w κ S uss x hn hp hr
 obtain ⟨κ',uss',h1,h2⟩:=hp.ren (B':=fun _=>False) hn hid hob hlin (fun h=>by cases h) (fun _ h=>h.elim)
 exact ⟨κ',S,uss',h1,h2 _ _ _ hv hr⟩
theorem RtB.ren {H H1 : List Ob} {v r : V} (js : List (Option Nat)) (kss : List (List Nat)) (hlin : (js.filterMap id ++ kss.flatten).Nodup) (hob : obRn H js true H1 js kss) (hv : Rn H js true v r []) : RtB H v r H1:=by
 intro E w κ S uss x hn hp hr
 obtain ⟨κ',uss',h1,h2⟩:=hp.ren (n0:=0) (B':=E.B) hn trivial hob hlin (fun _=>rfl) (fun _ h=>h)
 exact ⟨κ',S,uss',h1,h2 _ _ _ hv hr⟩
theorem Hp.share (h : Hp E H w κ S uss) {id : Nat} {ty : TypeId} {cs cs' : List V} (hi : H[id]? = some ⟨.own,ty,cs⟩) (hf : ∀ c ∈ cs,c.flat) (hl : LeL [] .s cs cs') (hcl : ∀ c ∈ cs',c.cl) :
  ∃ S' uss',Hp E (H.set id ⟨.frz,ty,cs'⟩) w κ S' uss' ∧ ∀ b,S b → S' b:=by
 have hlt:=(List.getElem?_eq_some_iff.1 hi).1
 rcases h.own hi rfl with ⟨q1,q2,q3⟩ | ⟨b,arr,u,q1,q2,q3,q4⟩
 ·have q2 : cs = []:=q2
  subst q2
  have : cs' = []:=List.eq_nil_of_length_eq_zero (by rw [← hl.length]; rfl)
  subst this
  refine ⟨S,uss,{ kl:=by simp [h.kl],al:=?_,ul:=by simp [h.ul],ob:=?_,nd:=h.nd,ow:=h.ow,sb:=h.sb,s0:=h.s0,s1:=h.s1,bb:=h.bb,kp:=h.kp,kk:=h.kk },fun _ h=>h⟩
  ·intro i ob' a st
   rw [List.getElem?_set] at a
   by_cases e : id = i
   ·subst e; exact ⟨_,q1⟩
   ·rw [if_neg e] at a; exact h.al i ob' a st
  ·intro i ob' k us a b c
   rw [List.getElem?_set] at a
   by_cases e : id = i
   ·subst e
    rw [if_pos rfl,if_pos hlt] at a
    obtain rfl:=Option.some.inj a
    rw [q1] at b; rw [q3] at c
    obtain rfl:=Option.some.inj b
    obtain rfl:=Option.some.inj c
    exact ⟨rfl,.inl ⟨rfl,rfl⟩⟩
   ·rw [if_neg e] at a; exact h.ob i ob' k us a b c
 ·let S' : BS:=fun x=>S x ∨ x ∈ b :: u
  have hS : ∀ x,S x → S' x:=fun _ h=>.inl h
  have hext : Ext w w S S' E.B E.B κ κ:=⟨hS,fun _ h=>h,fun _ _ h=>h,fun _ _ h=>h,fun _ _ _=>rfl⟩
  have hsub:=Q0Z q2 (List.nil_sublist _)
  have hm : Mem w S' E.B κ cs' b 0 [] :=
   Mem.cl (fun _ h=>h) hcl (LeL.mem (f:=.s) (H:=[]) (uss:=[]) (κ:=[]) (B':=E.B) (by intro h; cases h) hS hl (by intro h; cases h) (.inl rfl) (fun x hx=>.inr (List.mem_cons_of_mem _ hx)) (Mem.flat (κ':=[]) (fun _ h=>h) hf q4))
  have hall : ∀ x ∈ b :: u,¬ S x ∧ ¬ E.B x ∧ x < w.heap.size ∧ (E.w0.heap.size ≤ x ∨ x ∈ E.M):=fun x hx=>h.ow x (List.mem_flatten.2 ⟨_,List.mem_of_getElem? q2,hx⟩)
  have hnot : ∀ x ∈ (uss.set id []).flatten,x ∉ b :: u:=by
   intro x hx hxu
   obtain ⟨l,hl,hbl⟩:=List.mem_flatten.1 hx
   obtain ⟨j,hj⟩:=List.getElem?_of_mem hl
   rw [List.getElem?_set] at hj
   by_cases e : id = j
   ·subst e
    rw [if_pos rfl,if_pos (List.getElem?_eq_some_iff.1 q2).1] at hj
    obtain rfl:=Option.some.inj hj; simp at hbl
   ·rw [if_neg e] at hj
    exact Q0j h.nd q2 hj e x hxu hbl
  refine ⟨S',uss.set id [],{ kl:=by simp [h.kl],al:=?_,ul:=by simp [h.ul],ob:=?_,nd:=hsub.nodup h.nd,ow:=?_,sb:=?_,s0:=fun x hx=>.inl (h.s0 x hx),s1:=?_,bb:=h.bb,kp:=h.kp,kk:=h.kk },hS⟩
  ·intro i ob' a st
   rw [List.getElem?_set] at a
   by_cases e : id = i
   ·subst e; exact ⟨_,q1⟩
   ·rw [if_neg e] at a; exact h.al i ob' a st
  ·intro i ob' k us a b' c
   rw [List.getElem?_set] at a c
   by_cases e : id = i
   ·subst e
    rw [if_pos rfl,if_pos hlt] at a
    rw [if_pos rfl,if_pos (by rw [h.ul]; exact hlt)] at c
    obtain rfl:=Option.some.inj a
    rw [q1] at b'
    obtain rfl:=Option.some.inj b'
    obtain rfl:=Option.some.inj c
    exact ⟨rfl,.inr ⟨b,arr,rfl,.inr (by simp),q3,hm⟩⟩
   ·rw [if_neg e] at a c
    exact (h.ob i ob' k us a b' c).ext hext (fun _ _=>rfl)
  ·intro x hx
   obtain ⟨p1,p2,p3,p4⟩:=h.ow x (hsub.subset hx)
   refine ⟨?_,p2,p3,p4⟩
   rintro (hs | hs)
   ·exact p1 hs
   ·exact hnot x hx hs
  ·rintro x (hx | hx)
   ·exact h.sb x hx
   ·exact (hall x hx).2.2.1
  ·rintro x (hx | hx)
   ·exact h.s1 x hx
   ·exact .inr (hall x hx).2.2.2
theorem Hp.shareb (h : Hp E H w κ S uss) {id : Nat} {ty : TypeId} {cs cs' : List V} (hi : H[id]? = some ⟨.own,ty,cs⟩) (hf : ∀ c ∈ cs,c.flat) (hl : LeL [] .b cs cs') (hcl : ∀ c ∈ cs',c.flat) :
  ∃ S' uss',Hp E (H.set id ⟨.frz,ty,cs'⟩) w κ S' uss' ∧ ∀ b,S b → S' b:=by
 have hlt:=(List.getElem?_eq_some_iff.1 hi).1
 rcases h.own hi rfl with ⟨q1,q2,q3⟩ | ⟨b,arr,u,q1,q2,q3,q4⟩
 ·have q2 : cs = []:=q2
  subst q2
  have : cs' = []:=List.eq_nil_of_length_eq_zero (by rw [← hl.length]; rfl)
  subst this
  refine ⟨S,uss,{ kl:=by simp [h.kl],al:=?_,ul:=by simp [h.ul],ob:=?_,nd:=h.nd,ow:=h.ow,sb:=h.sb,s0:=h.s0,s1:=h.s1,bb:=h.bb,kp:=h.kp,kk:=h.kk },fun _ h=>h⟩
  ·intro i ob' a st
   rw [List.getElem?_set] at a
   by_cases e : id = i
   ·subst e; exact ⟨_,q1⟩
   ·rw [if_neg e] at a; exact h.al i ob' a st
  ·intro i ob' k us a b c
   rw [List.getElem?_set] at a
   by_cases e : id = i
   ·subst e
    rw [if_pos rfl,if_pos hlt] at a
    obtain rfl:=Option.some.inj a
    rw [q1] at b; rw [q3] at c
    obtain rfl:=Option.some.inj b
    obtain rfl:=Option.some.inj c
    exact ⟨rfl,.inl ⟨rfl,rfl⟩⟩
   ·rw [if_neg e] at a; exact h.ob i ob' k us a b c
 ·let S' : BS:=fun x=>S x ∨ x ∈ b :: u
  have hS : ∀ x,S x → S' x:=fun _ h=>.inl h
  have hext : Ext w w S S' E.B E.B κ κ:=⟨hS,fun _ h=>h,fun _ _ h=>h,fun _ _ h=>h,fun _ _ _=>rfl⟩
  have hsub:=Q0Z q2 (List.nil_sublist _)
  have hm : Mem w S' E.B κ cs' b 0 [] :=
   Mem.flat (κ:=[]) (fun _ h=>h) hcl (LeL.mem (f:=.b) (H:=[]) (uss:=[]) (κ:=[]) (B':=E.B) (by intro h; cases h) hS hl (fun _ _ h=>h) (.inl rfl) (fun x hx=>.inl (.inr (List.mem_cons_of_mem _ hx))) (Mem.flat (κ':=[]) (fun _ h=>h) hf q4))
  have hall : ∀ x ∈ b :: u,¬ S x ∧ ¬ E.B x ∧ x < w.heap.size ∧ (E.w0.heap.size ≤ x ∨ x ∈ E.M):=fun x hx=>h.ow x (List.mem_flatten.2 ⟨_,List.mem_of_getElem? q2,hx⟩)
  have hnot : ∀ x ∈ (uss.set id []).flatten,x ∉ b :: u:=by
   intro x hx hxu
   obtain ⟨l,hl,hbl⟩:=List.mem_flatten.1 hx
   obtain ⟨j,hj⟩:=List.getElem?_of_mem hl
   rw [List.getElem?_set] at hj
   by_cases e : id = j
   ·subst e
    rw [if_pos rfl,if_pos (List.getElem?_eq_some_iff.1 q2).1] at hj
    obtain rfl:=Option.some.inj hj; simp at hbl
   ·rw [if_neg e] at hj
    exact Q0j h.nd q2 hj e x hxu hbl
  refine ⟨S',uss.set id [],{ kl:=by simp [h.kl],al:=?_,ul:=by simp [h.ul],ob:=?_,nd:=hsub.nodup h.nd,ow:=?_,sb:=?_,s0:=fun x hx=>.inl (h.s0 x hx),s1:=?_,bb:=h.bb,kp:=h.kp,kk:=h.kk },hS⟩
  ·intro i ob' a st
   rw [List.getElem?_set] at a
   by_cases e : id = i
   ·subst e; exact ⟨_,q1⟩
   ·rw [if_neg e] at a; exact h.al i ob' a st
  ·intro i ob' k us a b' c
   rw [List.getElem?_set] at a c
   by_cases e : id = i
   ·subst e
    rw [if_pos rfl,if_pos hlt] at a
    rw [if_pos rfl,if_pos (by rw [h.ul]; exact hlt)] at c
    obtain rfl:=Option.some.inj a
    rw [q1] at b'
    obtain rfl:=Option.some.inj b'
    obtain rfl:=Option.some.inj c
    exact ⟨rfl,.inr ⟨b,arr,rfl,.inr (by simp),q3,hm⟩⟩
   ·rw [if_neg e] at a c
    exact (h.ob i ob' k us a b' c).ext hext (fun _ _=>rfl)
  ·intro x hx
   obtain ⟨p1,p2,p3,p4⟩:=h.ow x (hsub.subset hx)
   refine ⟨?_,p2,p3,p4⟩
   rintro (hs | hs)
   ·exact p1 hs
   ·exact hnot x hx hs
  ·rintro x (hx | hx)
   ·exact h.sb x hx
   ·exact (hall x hx).2.2.1
  ·rintro x (hx | hx)
   ·exact h.s1 x hx
   ·exact .inr (hall x hx).2.2.2
theorem Rep.sup {S' : BS} {κ : KM} {v : V} {x : Value} {B : BS} {us : List Nat} (hS : ∀ b,S b → S' b) (h : Rep w S B κ v x us) : Rep w S' B κ v x us :=
 Rep.ext (w:=w) (w':=w) κ κ ⟨hS,fun _ h=>h,fun _ _ h=>h,fun _ _ h=>h,fun _ _ _=>rfl⟩ v x us (fun _ _ _=>rfl) h
theorem StI.share {n0 : Nat} {tm : List (Nat × V)} {H : List Ob} (id : Nat) {ty : TypeId} {cs cs' : List V} (hi : H[id]? = some ⟨.own,ty,cs⟩) (hf : ∀ c ∈ cs,c.flat) (hl : LeL [] .s cs cs') (hcl : ∀ c ∈ cs',c.cl) : StI n0 ⟨tm,H⟩ ⟨tm,H.set id ⟨.frz,ty,cs'⟩⟩:=by
 rintro E a w hn ⟨κ,S,uss,hc⟩
 obtain ⟨S',uss',h1,h2⟩:=hc.toHp.share hi hf hl hcl
 exact ⟨κ,S',uss',h1,fun t v ht=>(hc.fr t v ht).sup h2,hc.df,hc.sz⟩
theorem RtG.share {n0 : Nat} {H H1 : List Ob} {v r : V} (id : Nat) {ty : TypeId} {cs cs' : List V} (hi : H[id]? = some ⟨.own,ty,cs⟩) (hf : ∀ c ∈ cs,c.flat) (hl : LeL [] .s cs cs') (hcl : ∀ c ∈ cs',c.cl) (h : RtG n0 (H.set id ⟨.frz,ty,cs'⟩) v r H1) : RtG n0 H v r H1:=by
 intro E w κ S uss x hn hp hr
 obtain ⟨S',uss',h1,h2⟩:=hp.share hi hf hl hcl
 obtain ⟨κ2,S2,uss2,h3,h4⟩:=h E w κ S' uss' x hn h1 (hr.sup h2)
 exact ⟨κ2,S2,uss2,⟨h3.kl,h3.al,h3.ul,h3.ob,h3.nd,h3.ow,h3.sb,h3.s0,h3.s1,h3.bb,h3.kp,h3.kk⟩,h4⟩
theorem StI.shareb {n0 : Nat} {tm : List (Nat × V)} {H : List Ob} (id : Nat) {ty : TypeId} {cs cs' : List V} (hi : H[id]? = some ⟨.own,ty,cs⟩) (hf : ∀ c ∈ cs,c.flat) (hl : LeL [] .b cs cs') (hcl : ∀ c ∈ cs',c.flat) : StI n0 ⟨tm,H⟩ ⟨tm,H.set id ⟨.frz,ty,cs'⟩⟩:=by
 rintro E a w hn ⟨κ,S,uss,hc⟩
 obtain ⟨S',uss',h1,h2⟩:=hc.toHp.shareb hi hf hl hcl
 exact ⟨κ,S',uss',h1,fun t v ht=>(hc.fr t v ht).sup h2,hc.df,hc.sz⟩
theorem RtB.shareb {H H1 : List Ob} {v r : V} (id : Nat) {ty : TypeId} {cs cs' : List V} (hi : H[id]? = some ⟨.own,ty,cs⟩) (hf : ∀ c ∈ cs,c.flat) (hl : LeL [] .b cs cs') (hcl : ∀ c ∈ cs',c.flat) (h : RtB (H.set id ⟨.frz,ty,cs'⟩) v r H1) : RtB H v r H1:=by
 intro E w κ S uss x hn hp hr
 obtain ⟨S',uss',h1,h2⟩:=hp.shareb hi hf hl hcl
 exact h E w κ S' uss' x hn h1 (hr.sup h2)
theorem Hp.open (h : Hp E H w κ S uss) {id j : Nat} {ty : TypeId} {cs cs0 : List V} {sz n : Nat} (hi : H[id]? = some ⟨.own,ty,cs⟩) (hj : cs[j]? = some (.sl .u sz n cs0)) (ty' : TypeId) :
    ∃ k uss',Hp E (H.set id ⟨.own,ty,cs.set j (.rsl H.length sz 0 n)⟩ ++ [⟨.own,ty',cs0⟩]) w (κ ++ [some k]) S uss':=by
  have hlt:=(List.getElem?_eq_some_iff.1 hi).1
  have hjl:=(List.getElem?_eq_some_iff.1 hj).1
  rcases h.own hi rfl with ⟨q1,q2,q3⟩ | ⟨b,arr,u,q1,q2,q3,q4⟩
  · have q2 : cs = []:=q2
    subst q2; simp at hjl
  · have hsplit : cs = cs.take j ++ (.sl .u sz n cs0 :: cs.drop (j + 1)):=by
      have:=List.take_append_drop j cs
      rw [List.drop_eq_getElem_cons hjl] at this
      rw [(List.getElem?_eq_some_iff.1 hj).2] at this
      exact this.symm
    rw [hsplit] at q4
    obtain ⟨u1,u2,e1,m1,⟨x,u3,u4,e2,e3,m2,m3⟩⟩:=Mem.append.1 q4
    obtain ⟨a,c,f1,f2,f3,f4,f5⟩:=m2
    subst e3
    subst e1
    -- the new object,and the row without it
    have hall : ∀ x ∈ b :: (u1 ++ (u3 ++ u4)),¬ S x ∧ ¬ E.B x ∧ x < w.heap.size ∧ (E.w0.heap.size ≤ x ∨ x ∈ E.M):=fun x hx=>h.ow x (List.mem_flatten.2 ⟨_,List.mem_of_getElem? q2,hx⟩)
    have hnd : (b :: (u1 ++ (u3 ++ u4))).Nodup:=Q0q h.nd (List.mem_of_getElem? q2)
    have hset : cs.set j (.rsl H.length sz 0 n) = cs.take j ++ (.rsl H.length sz 0 n :: cs.drop (j + 1)):=by
      rw [List.set_eq_take_append_cons_drop,if_pos hjl]
    have hnew : ∃ k,ObR w S E.B (κ ++ [some k]) ⟨.own,ty',cs0⟩ k u3 ∧ Rep w S E.B (κ ++ [some k]) (.rsl H.length sz 0 n) x []:=by
      rcases f5 with ⟨rfl,rfl,g2⟩ | ⟨b',o,u',rfl,g2,⟨rfl,g3,g4⟩⟩
      · have : cs0 = []:=List.eq_nil_of_length_eq_zero (by simpa using f4)
        subst this
        have hc0:=g2 rfl
        subst hc0
        exact ⟨none,.inl ⟨rfl,rfl,rfl⟩,rfl,.inl ⟨by rw [← h.kl]; exact Q1o _ _,rfl,rfl,a,f1⟩⟩
      · subst g3
        obtain ⟨arr',ty2,g5,g6⟩:=g4
        refine ⟨some b',.inr ⟨b',arr',u',rfl,rfl,⟨ty2,g5⟩, ?_⟩,rfl,.inr ⟨b',c,by rw [← h.kl]; exact Q1o _ _,by simpa using f1,f2,f3,arr',ty2,g5,by simpa using g6⟩⟩
        exact Mem.ext (w:=w) (w':=w) [] (κ ++ [some (some b')]) ⟨fun _ h=>h,fun _ h=>h.elim,fun _ _ h=>by simp at h,fun _ _ h=>h,fun _ _ _=>rfl⟩ _ _ _ _ (fun _=>rfl) (fun _ _ _=>rfl) g2
    obtain ⟨k,hob,hrx⟩:=hnew
    have hext : Ext w w S S E.B E.B κ (κ ++ [some k]):=⟨fun _ h=>h,fun _ h=>h,Q1R _,fun _ _ h=>h,fun _ _ _=>rfl⟩
    have hsubs : List.Sublist (b :: (u1 ++ u4)) (b :: (u1 ++ (u3 ++ u4))):=List.Sublist.cons_cons _ (List.Sublist.append (List.Sublist.refl _) (List.sublist_append_right _ _))
    have hmem : Mem w S E.B (κ ++ [some k]) (cs.set j (.rsl H.length sz 0 n)) b 0 (u1 ++ u4):=by
      rw [hset]
      refine Mem.append.2 ⟨u1,u4,rfl,Mem.ext κ _ hext _ _ _ _ (fun _=>rfl) (fun _ _ _=>rfl) m1,x,[],u4,e2,rfl,hrx, ?_⟩
      exact Mem.ext κ _ hext _ _ _ _ (fun _=>rfl) (fun _ _ _=>rfl) m3
    -- first the row is put without what it held,then the object is pushed
    have hmid : Hp E (H.set id ⟨.dead,ty,[]⟩) w κ S (uss.set id []):=h.kill id ⟨.own,ty,[]⟩
    let uss1:=uss.set id (b :: (u1 ++ u4))
    have hget : ∀ (i : Nat) (us : List Nat),uss1[i]? = some us → (i = id ∧ us = b :: (u1 ++ u4)) ∨ (i ≠ id ∧ uss[i]? = some us):=by
      intro i us hi
      simp only [uss1,List.getElem?_set] at hi
      by_cases e : id = i
      · rw [if_pos e,if_pos (by rw [h.ul]; exact hlt)] at hi
        exact .inl ⟨e.symm,(Option.some.inj hi).symm⟩
      · rw [if_neg e] at hi; exact .inr ⟨fun h=>e h.symm,hi⟩
    have hu3 : ∀ y ∈ u3,y ∉ uss1.flatten:=by
      intro y hy hm
      obtain ⟨l,hl,hyl⟩:=List.mem_flatten.1 hm
      obtain ⟨i,hi⟩:=List.getElem?_of_mem hl
      rcases hget i l hi with ⟨rfl,rfl⟩ | ⟨hne,hu⟩
      · have h1:=List.nodup_iff_count.1 hnd y
        have h2:=List.count_pos_iff.2 hy
        have h3:=List.count_pos_iff.2 hyl
        simp only [List.count_cons,List.count_append] at h1 h3
        omega
      · exact Q0j h.nd q2 hu (fun h=>hne h.symm) y (by simp [hy]) hyl
    refine ⟨k,uss1 ++ [u3],{ kl:=by simp [h.kl],al:=?_,ul:=by simp [uss1,h.ul],ob:=?_,nd:=?_,ow:=?_,sb:=h.sb,s0:=h.s0,s1:=h.s1,bb:=h.bb,kp:=h.kp,kk:=fun i y hy=>Q1R _ _ _ (h.kk i y hy) }⟩
    · intro i ob' a st
      by_cases hil : i < H.length
      · rw [List.getElem?_append_left (by simpa using hil),List.getElem?_set] at a
        by_cases e : id = i
        · subst e; exact ⟨_,Q1R _ _ _ q1⟩
        · rw [if_neg e] at a
          obtain ⟨y,hy⟩:=h.al i ob' a st
          exact ⟨y,Q1R _ _ _ hy⟩
      · rw [List.getElem?_append_right (by simpa using hil)] at a
        simp only [List.length_set] at a
        have : i = H.length:=by
          have:=(List.getElem?_eq_some_iff.1 a).1
          simp at this; omega
        subst this
        exact ⟨k,by rw [← h.kl]; exact Q1o _ _⟩
    · intro i ob' k' us a b' c
      by_cases hil : i < H.length
      · rw [List.getElem?_append_left (by simpa using hil),List.getElem?_set] at a
        rw [List.getElem?_append_left (by simp [uss1,h.ul,hil])] at c
        rw [X3x (by rw [h.kl]; exact hil)] at b'
        rcases hget i us c with ⟨rfl,rfl⟩ | ⟨hne,hu⟩
        · rw [if_pos rfl,if_pos hil] at a
          obtain rfl:=Option.some.inj a
          rw [q1] at b'
          obtain rfl:=Option.some.inj b'
          exact .inr ⟨b,arr,_,rfl,rfl,q3,hmem⟩
        · rw [if_neg (fun h=>hne h.symm)] at a
          exact (h.ob i ob' k' us a b' hu).ext hext (fun _ _=>rfl)
      · rw [List.getElem?_append_right (by simpa using hil)] at a
        rw [List.getElem?_append_right (by simp [uss1,h.ul]; omega)] at c
        simp only [List.length_set,uss1,h.ul] at a c
        have : i = H.length:=by
          have:=(List.getElem?_eq_some_iff.1 a).1
          simp at this; omega
        subst this
        simp only [Nat.sub_self,List.getElem?_cons_zero,Option.some.injEq] at a c
        subst a; subst c
        rw [← h.kl,Q1o] at b'
        obtain rfl:=Option.some.inj b'
        exact hob
    · rw [List.flatten_append,List.nodup_append]
      refine ⟨(Q0Z q2 hsubs).nodup h.nd,by simpa using (List.nodup_append.1 (List.nodup_append.1 (List.nodup_cons.1 hnd).2).2.1).1, ?_⟩
      rintro y hy z hz rfl
      exact hu3 y (by simpa using hz) hy
    · intro y hy
      rw [List.flatten_append,List.mem_append] at hy
      rcases hy with hy | hy
      · exact h.ow y ((Q0Z q2 hsubs).subset hy)
      · exact hall y (by have : y ∈ u3:=by simpa using hy
                         simp [this])
theorem StI.open {n0 : Nat} {tm : List (Nat × V)} {H : List Ob} (id j : Nat) {ty : TypeId} {cs cs0 : List V} {sz n : Nat} (hi : H[id]? = some ⟨.own,ty,cs⟩) (hj : cs[j]? = some (.sl .u sz n cs0)) (ty' : TypeId) :
  StI n0 ⟨tm,H⟩ ⟨tm,H.set id ⟨.own,ty,cs.set j (.rsl H.length sz 0 n)⟩ ++ [⟨.own,ty',cs0⟩]⟩:=by
 rintro E a w hn ⟨κ,S,uss,hc⟩
 obtain ⟨k,uss',h1⟩:=hc.toHp.open hi hj ty'
 exact ⟨_,S,uss',h1,fun t v ht=>Rep.ext (w:=w) (w':=w) κ (κ ++ [some k]) ⟨fun _ h=>h,fun _ h=>h,Q1R _,fun _ _ h=>h,fun _ _ _=>rfl⟩ v _ [] (by simp) (hc.fr t v ht),hc.df,hc.sz⟩
end
attribute [go_sem] Nat.zero_le decide_true decide_false
section
variable {P : Program} {H : List Ob} {js : List Nat} {K : V → List Ob → Prop}
theorem callG' {g : FuncId} {vs args : List V} {r : V} {H0 H1 : List Ob} (js : List Nat) (h : GC P g args H0 r H1) (hnd : js.Nodup) (hok : hdOk H js H0) (hag : AgL H js vs args) (hl : js.length ≤ H1.length) (hfl : ∀ ob ∈ H1,ob.st ≠ .res ∧ ∀ c ∈ ob.cs,c.flat)
  (hk : K (r.rn (rnI js H.length)) (putO H js H1 ++ tailO js H1)) : callGS P (.fn (.func g) [] []) vs H K .mk :=
 .inl ⟨js,args,H0,r,H1,hnd,hok,by simpa using hag,h,hl,hfl,hk⟩
theorem callI' {g : FuncId} {vs : List V} {r : V} {H1 : List Ob} (h : IC P g vs H r H1) (hk : K r H1) : callGS P (.fn (.func g) [] []) vs H K .mk :=
 .inr (.inl ⟨r,H1,by simpa using h,hk⟩)
theorem PC.gc {f : FuncId} {args : List V} {r : V} {H1 : List Ob} (h : PC P f args r H1) : GC P f args [] r H1:=by
 refine ⟨h.1, ?_⟩
 intro w S B κ uss xs hp hr
 have hu : uss = []:=List.eq_nil_of_length_eq_zero hp.ul
 have hκ : κ = []:=List.eq_nil_of_length_eq_zero hp.kl
 subst hu; subst hκ
 refine (h.2 w S B xs (fun b hb=>hb.elim (hp.sb b) (hp.bb b)) hr).mono ?_
 rintro e w' ⟨x,rfl,hb,κ',S',uss',h1,h2,h3,h4,h5,h6,h7,h8,h9⟩
 refine ⟨x,rfl,κ',S',uss',{ kl:=h4,al:=h5,ul:=h6,ob:=h7,nd:=h8,ow:=fun b hb=>⟨(h9 b hb).2.2,fun h=>h,(h9 b hb).2.1,.inl (h9 b hb).1⟩,sb:=?_,s0:=h1,s1:=fun b hb=>(h2 b hb).imp (fun h=>h) (fun h=>.inl h.1),bb:=fun _ h=>h.elim,kp:=Keeps.of_below _ hb,kk:=fun _ _ h=>by simp at h },h3⟩
 intro b hb'
 rcases h2 b hb' with h | h
 ·exact Nat.lt_of_lt_of_le (hp.sb b h) hb.size
 ·exact h.2
theorem GC.pc {f : FuncId} {args : List V} {r : V} {H1 : List Ob} (h : GC P f args [] r H1) : PC P f args r H1:=by
 refine ⟨h.1, ?_⟩
 intro w S B xs hb hr
 refine (h.2 w S B [] [] xs { kl:=rfl,al:=by intro i ob h; simp at h,ul:=rfl,ob:=by intro i ob k us h; simp at h,nd:=by simp,ow:=by simp,sb:=fun b h=>hb b (.inl h),s0:=fun _ h=>h,s1:=fun _ h=>.inl h,bb:=fun b h=>hb b (.inr h),kp:=Keeps.refl _ _,kk:=fun _ _ h=>by simp at h } hr).mono ?_
 rintro e w' ⟨x,rfl,κ',S',uss',hp,hr'⟩
 have hnew : ∀ b,S' b → S b ∨ (w.heap.size ≤ b ∧ b < w'.heap.size):=by
  intro b hs
  rcases hp.s1 b hs with h | h | h
  ·exact .inl h
  ·exact .inr ⟨h,hp.sb b hs⟩
  ·simp at h
 refine ⟨x,rfl,hp.kp.below,κ',S',uss',hp.s0,hnew,hr',hp.kl,hp.al,hp.ul,hp.ob,hp.nd, ?_⟩
 intro b hb'
 obtain ⟨q1,q2,q3,q4⟩:=hp.ow b hb'
 refine ⟨?_,q3,q1⟩
 rcases q4 with q4 | q4
 ·exact q4
 ·simp at q4
mutual
theorem V.sh_flat {n : Nat} : ∀ {v : V},v.flat → v.sh n = v
 | .any,_=>rfl
 | .lit _,_=>rfl
 | .emp,_=>rfl
 | .ptr _ _,_=>rfl
 | .sl _ _ _ _,_=>rfl
 | .agg _,h=>h.elim
 | .tup _,h=>h.elim
 | .fn _ _ _,h=>h.elim
 | .ref _ _,h=>h.elim
 | .rsl _ _ _ _,h=>h.elim
theorem V.shL_flat {n : Nat} : ∀ {vs : List V},(∀ c ∈ vs,c.flat) → V.shL n vs = vs
 | [],_=>rfl
 | v :: vs,h=>by
  show V.sh n v :: V.shL n vs = v :: vs
  rw [V.sh_flat (h v (by simp)),V.shL_flat (fun c hc=>h c (by simp [hc]))]
end
theorem callO' {g : FuncId} {vs args : List V} {r : V} {H1 : List Ob} (h : GC P g args [] r H1) (hl : LeL H .b vs args) (hfl : ∀ ob ∈ H1,ob.st ≠ .res ∧ ∀ c ∈ ob.cs,c.flat) (hk : K (r.sh H.length) (H ++ H1)) : callS P (.fn (.func g) [] []) vs H K .mk:=by
 refine callQ h.pc hl (fun ob ho=>(hfl ob ho).1) ?_
 have e : ∀ l : List Ob,(∀ ob ∈ l,ob.st ≠ .res ∧ ∀ c ∈ ob.cs,c.flat) → l.map (Ob.sh H.length) = l:=by
  intro l
  induction l with
  | nil=>intro _; rfl
  | cons ob l ih =>
   intro hl
   rw [List.map_cons,ih (fun ob h=>hl ob (by simp [h]))]
   obtain ⟨st,ty,cs⟩:=ob
   have:=(hl ⟨st,ty,cs⟩ (by simp)).2
   unfold Ob.sh
   rw [V.shL_flat this]
 rw [e H1 hfl]; exact hk
attribute [go_sem] V.sh V.shL
@[go_sem] theorem Z7D : hdOk H [] [] = True:=(rfl)
def hd1 (o : Option Ob) (ob : Ob) : Prop:=o = some ob ∧ ob.st = .own ∧ ∀ c ∈ ob.cs,c.flat
@[go_sem] theorem Z5o {j : Nat} {ob : Ob} {H0 : List Ob} : hdOk H (j :: js) (ob :: H0) = (hd1 H[j]? ob ∧ hdOk H js H0):=(rfl)
@[go_sem] theorem J0y {ty ty' : TypeId} {cs cs' : List V} : hd1 (some ⟨.own,ty,cs⟩) ⟨.own,ty',cs'⟩ = (ty = ty' ∧ cs = cs' ∧ ∀ c ∈ cs',c.flat):=by
 unfold hd1
 apply propext; constructor
 ·rintro ⟨h1,h2,h3⟩
  simp only [Option.some.injEq,Ob.mk.injEq,true_and] at h1
  exact ⟨h1.1,h1.2,h3⟩
 ·rintro ⟨rfl,rfl,h⟩; exact ⟨rfl,rfl,h⟩
@[go_sem] theorem Z4C {j : Nat} {ob : Ob} {H1 : List Ob} : putO H (j :: js) (ob :: H1) = putO (H.set j ob) js H1:=(rfl)
@[go_sem] theorem Z6T {H1 : List Ob} : putO H [] H1 = H:=by cases H1 <;> rfl
@[go_sem] theorem Z3T {H1 : List Ob} : tailO [] H1 = H1:=(rfl)
@[go_sem] theorem Z2p {j : Nat} {ob : Ob} {H1 : List Ob} : tailO (j :: js) (ob :: H1) = ⟨.dead,0,[]⟩ :: tailO js H1:=(rfl)
@[go_sem] theorem J1I {n i : Nat} : rnI js n i = (js[i]?).getD (n + i):=(rfl)
@[go_sem] theorem J0t : kil H [] = H:=(rfl)
@[go_sem] theorem Z7n {j : Nat} : kil H (j :: js) = kil (H.set j ⟨.dead,0,[]⟩) js:=(rfl)
attribute [go_sem] V.rn V.rnL
@[go_sem] theorem J0Y : AgL H js [] [] = True:=by apply propext; exact ⟨fun _=>trivial,fun _=>.nil⟩
@[go_sem] theorem Z8j {v v' : V} {vs vs' : List V} : AgL H js (v :: vs) (v' :: vs') = (Ag H js v v' ∧ AgL H js vs vs'):=by
 apply propext; constructor
 ·intro h; cases h with | cons _ _ _ _ h1 h2=>exact ⟨h1,h2⟩
 ·rintro ⟨h1,h2⟩; exact .cons _ _ _ _ h1 h2
@[go_sem] theorem J2x {id i sz o n sz' o' n' : Nat} : Ag H js (.rsl id sz o n) (.rsl i sz' o' n') = (js[i]? = some id ∧ sz = sz' ∧ o = o' ∧ n = n'):=by
 apply propext; constructor
 ·intro h; cases h with
  | le _ _ h=>cases h
  | rsl _ _ _ _ _ h=>exact ⟨h,rfl,rfl,rfl⟩
 ·rintro ⟨h,rfl,rfl,rfl⟩; exact .rsl _ _ _ _ _ h
@[go_sem] theorem J2y {id i o o' : Nat} : Ag H js (.ref id o) (.ref i o') = (js[i]? = some id ∧ o = o'):=by
 apply propext; constructor
 ·intro h; cases h with
  | le _ _ h=>cases h
  | ref _ _ _ h=>exact ⟨h,rfl⟩
 ·rintro ⟨h,rfl⟩; exact .ref _ _ _ h
@[go_sem] theorem J2z {a b : Value} : Ag H js (.lit a) (.lit b) = (a = b):=by
 apply propext; constructor
 ·intro h; cases h with | le _ _ h=>cases h; rfl
 ·rintro rfl; exact .le _ _ (.lit _)
@[go_sem] theorem ag_sl {g g' : Fl} {sz n sz' n' : Nat} {cs cs' : List V} : Ag H js (.sl g sz n cs) (.sl g' sz' n' cs') = Le (kil H js) .b (.sl g sz n cs) (.sl g' sz' n' cs'):=by
 apply propext; constructor
 ·intro h; cases h with | le _ _ h=>exact h
 ·intro h; exact .le _ _ h
@[go_sem] theorem ag_rs {g' : Fl} {id sz o n sz' n' : Nat} {cs' : List V} : Ag H js (.rsl id sz o n) (.sl g' sz' n' cs') = Le (kil H js) .b (.rsl id sz o n) (.sl g' sz' n' cs'):=by
 apply propext; constructor
 ·intro h; cases h with | le _ _ h=>exact h
 ·intro h; exact .le _ _ h
theorem AgL.of_le : ∀ {vs vs' : List V},LeL (kil H js) .b vs vs' → AgL H js vs vs'
 | _,_,.nil=>.nil
 | _,_,.cons _ _ _ _ h1 h2=>.cons _ _ _ _ (.le _ _ h1) (AgL.of_le h2)
@[go_sem] theorem J2A {a b : List V} : Ag H js (.agg a) (.agg b) = AgL H js a b:=by
 apply propext; constructor
 ·intro h; cases h with
  | le _ _ h=>cases h with | agg _ _ h=>exact AgL.of_le h
  | agg _ _ h=>exact h
 ·exact .agg _ _
@[go_sem] theorem Z7L {v : Value} : V.flat (.lit v) = True:=(rfl)
@[go_sem] theorem J0B {f : Fl} {sz n : Nat} {cs : List V} : V.flat (.sl f sz n cs) = True:=(rfl)
@[go_sem] theorem J2s {l : List Int} : (∀ c ∈ iC l,c.cl) = True:=by
 apply propext
 refine ⟨fun _=>trivial,fun _ c hc=>?_⟩
 unfold iC at hc
 obtain ⟨n,_,rfl⟩:=List.mem_map.1 hc
 exact trivial
@[go_sem] theorem Y3J {l : List Int} : (∀ c ∈ iC l,c.flat) = True:=by
 apply propext; refine ⟨fun _=>trivial,fun _=>?_⟩
 intro c hc
 unfold iC at hc
 obtain ⟨n,_,rfl⟩:=List.mem_map.1 hc
 trivial
end
section
variable {H : List Ob} {js : List (Option Nat)} {bk : Bool} {ks : List Nat}
@[go_sem] theorem J1E {v : V} : Rn H js bk v .any [] = True:=by apply propext; exact ⟨fun _=>trivial,fun _=>.any _ _ _⟩
@[go_sem] theorem J1B {a b : Value} : Rn H js bk (.lit a) (.lit b) [] = (a = b):=by
 apply propext; constructor
 ·intro h; cases h; rfl
 ·rintro rfl; exact .same _ _ _ trivial (fun _=>trivial)
@[go_sem] theorem J1D : Rn H js bk .emp .emp [] = True:=by apply propext; exact ⟨fun _=>trivial,fun _=>.same _ _ _ trivial (fun _=>trivial)⟩
@[go_sem] theorem J1C {f : Fl} {sz n : Nat} {cs : List V} : Rn H js bk .emp (.sl f sz n cs) [] = (n = 0 ∧ cs = []):=by
 apply propext; constructor
 ·intro h; cases h; exact ⟨rfl,rfl⟩
 ·rintro ⟨rfl,rfl⟩; exact .esl _ _ _ _
@[go_sem] theorem J1A {i sz o n : Nat} : Rn H js bk .emp (.rsl i sz o n) [] = (js[i]? = some none ∧ o = 0 ∧ n = 0):=by
 apply propext; constructor
 ·intro h; cases h with | new _ _ _ _ h=>exact ⟨h,rfl,rfl⟩
 ·rintro ⟨h,rfl,rfl⟩; exact .new _ _ _ _ h
@[go_sem] theorem J1y {id i sz o n sz' o' n' : Nat} : Rn H js bk (.rsl id sz o n) (.rsl i sz' o' n') [] = (js[i]? = some (some id) ∧ sz = sz' ∧ o = o' ∧ n = n'):=by
 apply propext; constructor
 ·intro h; cases h with
  | same _ _ _ h _=>exact h.elim
  | rsl _ _ _ _ _ _ _ h=>exact ⟨h,rfl,rfl,rfl⟩
 ·rintro ⟨h,rfl,rfl,rfl⟩; exact .rsl _ _ _ _ _ _ _ h
@[go_sem] theorem J1z {id i o o' : Nat} : Rn H js bk (.ref id o) (.ref i o') [] = (js[i]? = some (some id) ∧ o = o'):=by
 apply propext; constructor
 ·intro h; cases h with
  | same _ _ _ h _=>exact h.elim
  | ref _ _ _ _ _ h=>exact ⟨h,rfl⟩
 ·rintro ⟨h,rfl⟩; exact .ref _ _ _ _ _ h
@[go_sem] theorem J1w {sz n sz' n' : Nat} {cs cs' : List V} : Rn H js bk (.sl .s sz n cs) (.sl .s sz' n' cs') [] = (sz = sz' ∧ n = n' ∧ cs = cs'):=by
 apply propext; constructor
 ·intro h; cases h; exact ⟨rfl,rfl,rfl⟩
 ·rintro ⟨rfl,rfl,rfl⟩; exact .same _ _ _ trivial (fun _=>trivial)
@[go_sem] theorem J1v {sz n sz' n' : Nat} {cs cs' : List V} : Rn H js bk (.sl .u sz n cs) (.sl .u sz' n' cs') [] = (sz = sz' ∧ n = n' ∧ cs = cs'):=by
 apply propext; constructor
 ·intro h; cases h; exact ⟨rfl,rfl,rfl⟩
 ·rintro ⟨rfl,rfl,rfl⟩; exact .same _ _ _ trivial (fun _=>trivial)
@[go_sem] theorem J1x {g : Fl} {sz n sz' n' : Nat} {cs cs' : List V} : Rn H js true (.sl g sz n cs) (.sl g sz' n' cs') [] = (sz = sz' ∧ n = n' ∧ cs = cs'):=by
 apply propext; constructor
 ·intro h; cases h; exact ⟨rfl,rfl,rfl⟩
 ·rintro ⟨rfl,rfl,rfl⟩; exact .same _ _ _ trivial (fun h=>by cases h)
@[go_sem] theorem Z9u {g : Fl} {cs cs' : List V} : Rn H js true (.ptr g cs) (.ptr g cs') [] = (cs = cs'):=by
 apply propext; constructor
 ·intro h; cases h; rfl
 ·rintro rfl; exact .same _ _ _ trivial (fun h=>by cases h)
@[go_sem] theorem Z9t {cs cs' : List V} : Rn H js bk (.ptr .s cs) (.ptr .s cs') [] = (cs = cs'):=by
 apply propext; constructor
 ·intro h; cases h; rfl
 ·rintro rfl; exact .same _ _ _ trivial (fun _=>trivial)
@[go_sem] theorem J1F {a b : List V} : Rn H js bk (.agg a) (.agg b) ks = RnL H js bk a b ks:=by
 apply propext; constructor
 ·intro h; cases h with
  | same _ _ _ h _=>exact h.elim
  | agg _ _ _ _ _ h=>exact h
 ·exact .agg _ _ _ _ _
@[go_sem] theorem J1u {a b : List V} : Rn H js bk (.tup a) (.tup b) ks = RnL H js bk a b ks:=by
 apply propext; constructor
 ·intro h; cases h with
  | same _ _ _ h _=>exact h.elim
  | tup _ _ _ _ _ h=>exact h
 ·exact .tup _ _ _ _ _
@[go_sem] theorem Z9z : RnL H js bk [] [] [] = True:=by apply propext; exact ⟨fun _=>trivial,fun _=>.nil _ _⟩
@[go_sem] theorem Z6J {v v' : V} {vs vs' : List V} : RnL H js bk (v :: vs) (v' :: vs') [] = (Rn H js bk v v' [] ∧ RnL H js bk vs vs' []):=by
 apply propext; constructor
 ·intro h
  generalize hk : ([] : List Nat) = k at h
  cases h with
  | cons _ _ _ _ _ _ k1 k2 h1 h2 =>
   obtain ⟨rfl,rfl⟩ : k1 = [] ∧ k2 = []:=by simpa using hk.symm
   exact ⟨h1,h2⟩
 ·rintro ⟨h1,h2⟩; exact .cons _ _ _ _ _ _ [] [] h1 h2
theorem RnL.app {a b a' b' : List V} {k1 k2 : List Nat} (h1 : RnL H js bk a a' k1) (h2 : RnL H js bk b b' k2) : RnL H js bk (a ++ b) (a' ++ b') (k1 ++ k2):=by
 induction a generalizing a' k1 with
 | nil=>cases h1; exact h2
 | cons v a ih =>
  cases h1 with
  | cons _ _ _ v' _ a' k0 k3 e1 e2 =>
   rw [List.cons_append,List.cons_append,List.append_assoc]
   exact .cons _ _ _ _ _ _ _ _ e1 (ih e2)
theorem RnL.same {cs : List V} (h : ∀ c ∈ cs,c.flat) (hn : bk = false → ∀ c ∈ cs,c.nb) : RnL H js bk cs cs []:=by
 induction cs with
 | nil=>exact .nil _ _
 | cons c cs ih=>exact .cons _ _ _ _ _ _ [] [] (.same _ _ _ (h c (by simp)) (fun e=>hn e c (by simp))) (ih (fun c hc=>h c (by simp [hc])) (fun e c hc=>hn e c (by simp [hc])))
theorem nb_iC {l : List Int} : ∀ c ∈ iC l,c.nb:=by
 intro c hc
 unfold iC at hc
 obtain ⟨n,_,rfl⟩:=List.mem_map.1 hc
 trivial
theorem RnL.lits {l : List Int} : RnL H js bk (iC l) (iC l) []:=RnL.same (by simp only [Y3J]) (fun _=>nb_iC)
@[go_sem] theorem J1H {l : List Int} : RnL H js bk (iC l) (iC l) [] = True:=by apply propext; exact ⟨fun _=>trivial,fun _=>RnL.lits⟩
@[go_sem] theorem Z6V : obRn H js bk [] [] [] = True:=(rfl)
def obA (o : Option Ob) (H : List Ob) (js : List (Option Nat)) (bk : Bool) (ob' : Ob) (ks : List Nat) : Prop :=
 ob'.st = .dead ∨ ∃ ob,o = some ob ∧ ob.st = ob'.st ∧ (ob'.st = .own ∨ ((ob'.st = .frz ∨ ob'.st = .mp) ∧ ks = [])) ∧ RnL H js bk ob.cs ob'.cs ks
@[go_sem] theorem Z4K {ob' : Ob} {H' : List Ob} {i : Nat} {js' : List (Option Nat)} {kss : List (List Nat)} : obRn H js bk (ob' :: H') (some i :: js') (ks :: kss) = (obA H[i]? H js bk ob' ks ∧ obRn H js bk H' js' kss):=(rfl)
@[go_sem] theorem Z4L {ob' : Ob} {H' : List Ob} {js' : List (Option Nat)} {kss : List (List Nat)} : obRn H js bk (ob' :: H') (none :: js') (ks :: kss) = ((ob'.st = .dead ∨ ob'.st = .own ∧ ob'.cs = []) ∧ obRn H js bk H' js' kss):=(rfl)
@[congr] theorem Z4M {o o' : Option Ob} {ob' : Ob} (h : o = o') : obA o H js bk ob' ks = obA o' H js bk ob' ks:=by rw [h]
@[go_sem] theorem Z9L {ty ty' : TypeId} {cs cs' : List V} : obA (some ⟨.own,ty,cs⟩) H js bk ⟨.own,ty',cs'⟩ ks = RnL H js bk cs cs' ks:=by simp [obA]
@[go_sem] theorem Z9M {ty ty' : TypeId} {cs cs' : List V} : obA (some ⟨.frz,ty,cs⟩) H js bk ⟨.frz,ty',cs'⟩ [] = RnL H js bk cs cs' []:=by simp [obA]
@[go_sem] theorem Z6r {s : St} : tmRn H js s [] = True:=(rfl)
@[go_sem] theorem Z3P {s : St} {t : Nat} {v : V} {r : List (Nat × V)} : tmRn H js s ((t,v) :: r) = (Rn H js true (s.get t) v [] ∧ tmRn H js s r):=(rfl)
@[congr] theorem Z6G {v v' u : V} {k : List Nat} (h : v = v') : Rn H js bk v u k = Rn H js bk v' u k:=by rw [h]
@[go_sem] theorem Z2V {i : Nat} : idpre 0 i js = True:=(rfl)
@[go_sem] theorem Z2W {n i : Nat} {j : Option Nat} : idpre (n + 1) i (j :: js) = (j = some i ∧ idpre n (i + 1) js):=(rfl)
end
section
variable {P : Program} {n0 : Nat} {rs : List ResultVar} {r : V} {H1 : List Ob} {s : St}
@[go_sem ↓] theorem Z6M : RetG P n0 rs r H1 .ret s = resC P rs s fun vs=>RtG n0 s.hp (V.one vs) r H1:=by simp [RetG]
@[go_sem ↓] theorem Z1i : RetG P n0 rs r H1 .normal s = resC P rs s fun vs=>RtG n0 s.hp (V.one vs) r H1:=by simp [RetG]
@[go_sem ↓] theorem Z6L : RetI P rs r H1 .ret s = resC P rs s fun vs=>s.hp = H1 ∧ V.one vs = r:=by simp [RetI]
@[go_sem ↓] theorem Z6N : RetB P rs r H1 .ret s = resC P rs s fun vs=>RtB s.hp (V.one vs) r H1:=by simp [RetB]
@[congr] theorem Z4n {H H' : List Ob} {v v' : V} (h : H = H') (h2 : v = v') : RtB H v r H1 = RtB H' v' r H1:=by rw [h,h2]
@[congr] theorem Z4l {H H' : List Ob} {v v' : V} (h : H = H') (h2 : v = v') : RtG n0 H v r H1 = RtG n0 H' v' r H1:=by rw [h,h2]
end
theorem RtG.nothing {n0 : Nat} {H H1 : List Ob} {v r : V} (js : List (Option Nat)) (hid : idpre n0 0 js) (hlin : (js.filterMap id).Nodup) (hob : obRn H js false H1 js (js.map fun _=>[])) (hv : Rn H js false v r []) : RtG n0 H v r H1 :=
 RtG.ren js _ hid (by
  have : (js.map fun _=>([] : List Nat)).flatten = []:=by simp
  rw [this,List.append_nil]; exact hlin) hob hv
theorem RtB.nothing {H H1 : List Ob} {v r : V} (js : List (Option Nat)) (hlin : (js.filterMap id).Nodup) (hob : obRn H js true H1 js (js.map fun _=>[])) (hv : Rn H js true v r []) : RtB H v r H1 :=
 RtB.ren js _ (by
  have : (js.map fun _=>([] : List Nat)).flatten = []:=by simp
  rw [this,List.append_nil]; exact hlin) hob hv
theorem callB' {P : Program} {H : List Ob} {K : V → List Ob → Prop} {g : FuncId} {vs : List V} {r : V} {H1 : List Ob} (h : PB P g vs r H1) (hl : ∀ v ∈ vs,v.fl2) (hfl : ∀ ob ∈ H1,ob.st ≠ .res ∧ ∀ c ∈ ob.cs,c.flat) (hk : K (r.sh H.length) (H ++ H1)) : callS P (.fn (.func g) [] []) vs H K .mk:=by
 refine callB h hl (fun ob ho=>(hfl ob ho).1) ?_
 have e : ∀ l : List Ob,(∀ ob ∈ l,ob.st ≠ .res ∧ ∀ c ∈ ob.cs,c.flat) → l.map (Ob.sh H.length) = l:=by
  intro l
  induction l with
  | nil=>intro _; rfl
  | cons ob l ih =>
   intro hl
   rw [List.map_cons,ih (fun ob h=>hl ob (by simp [h]))]
   obtain ⟨st,ty,cs⟩:=ob
   have:=(hl ⟨st,ty,cs⟩ (by simp)).2
   unfold Ob.sh
   rw [V.shL_flat this]
 rw [e H1 hfl]; exact hk
section
variable {H : List Ob} {f : Fl}
def ownAt (o : Option Ob) (cs : List V) : Prop:=∃ ty,o = some ⟨.own,ty,cs⟩
@[go_sem] theorem Z2G {ty : TypeId} {cs cs' : List V} : ownAt (some ⟨.own,ty,cs⟩) cs' = (cs = cs'):=by
 unfold ownAt
 apply propext; constructor
 ·rintro ⟨t,h⟩; simp only [Option.some.injEq,Ob.mk.injEq,true_and] at h; exact h.2
 ·rintro rfl; exact ⟨_,rfl⟩
@[congr] theorem Z1s {o o' : Option Ob} {cs : List V} (h : o = o') : ownAt o cs = ownAt o' cs:=by rw [h]
def refL (H : List Ob) (f : Fl) (o : Option Ob) (off : Nat) (cs' : List V) : Prop:=∃ ob,o = some ob ∧ (ob.st = .own ∨ ob.st = .frz) ∧ LeL H f (ob.cs.drop off) cs'
@[congr] theorem Z2E {o o' : Option Ob} {off : Nat} {cs : List V} (h : o = o') : refL H f o off cs = refL H f o' off cs:=by rw [h]
@[go_sem] theorem Z6R {ty : TypeId} {cs cs' : List V} {off : Nat} : refL H f (some ⟨.own,ty,cs⟩) off cs' = LeL H f (cs.drop off) cs':=by simp [refL]
@[go_sem] theorem J2a {id off : Nat} {cs' : List V} (h : refL H f H[id]? off cs') : Le H f (.ref id off) (.ptr f cs') = True:=by
 obtain ⟨ob,h1,h2,h3⟩:=h
 apply propext; exact ⟨fun _=>trivial,fun _=>.ref _ _ _ _ h1 h2 h3⟩
attribute [go_sem] List.drop_zero List.drop_succ_cons
@[go_sem] theorem J0e {id n n' : Nat} {l : List Int} (h : ownAt H[id]? (iC l)) (hn : n = l.length) (hn' : n' = l.length) : Le H f (.rsl id 1 0 n) (.sl f 1 n' (iC l)) = True:=by
 obtain ⟨ty,h⟩:=h
 subst hn; subst hn'
 apply propext; exact ⟨fun _=>trivial,fun _=>Le.ownI0 h rfl⟩
end
end Go.Proofs.YtchlpclgkhggeaaGreat