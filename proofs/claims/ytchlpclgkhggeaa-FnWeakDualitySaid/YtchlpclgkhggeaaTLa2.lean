/- part of the proof -/
import Derived.Test.YtchlpclgkhggeaaTTa
import Derived.Test.YtchlpclgkhggeaaTDu
import Derived.Test.YtchlpclgkhggeaaTGa
namespace Go.Proofs.Ytchlpclgkhggeaa
open Go Go.RowKit
set_option maxRecDepth 100000
set_option maxHeartbeats 4000000
set_option linter.unusedVariables false
set_option linter.unusedSimpArgs false
def upd1 (g : Nat → FQ) (i : Nat) (x : FQ) : Nat → FQ:=fun a=>if a = i then x else g a
theorem Y4q {c j : Nat} {g : Nat → FQ} {x : FQ} : (rowQ c g).set j x = rowQ c (upd1 g j x):=by
 apply List.ext_getElem?
 intro i
 rw [List.getElem?_set]
 simp only [rowQ,List.length_map,List.length_range,List.getElem?_map]
 by_cases hi : i < c
 ·rw [List.getElem?_range hi]
  unfold upd1
  by_cases e : j = i
  ·subst e; simp [hi]
  ·simp [e,Ne.symm e]
 ·rw [List.getElem?_eq_none (l:=List.range c) (by rw [List.length_range]; omega)]
  by_cases e : j = i
  ·subst e; simp [hi]
  ·simp [e]
abbrev rwO (c : Nat) (g : Nat → FQ) : Ob:=⟨.own,Q1k,rsC .s ((rowQ c g).map qd)⟩
section
variable {P : Program} {lt : List Nat} {s : St}
theorem Q3a {b c : Bool} {A : Prop} {P : Program} {lt : List Nat} {o : Oper} {s : St} {K : V → List Ob → Prop} {d : Tr (A,mutO P lt o s K)} (h : mvB o.op = false) (hc : c = false) : mtS b c A (mutO P lt o s K) d = A:=by
 subst hc
 unfold mtS mutO
 apply propext; constructor
 ·rintro (⟨_,h'⟩ | ⟨_,js,v,H',q,_⟩)
  ·exact h'
  ·rw [h] at q; cases q
 ·exact fun h=>.inl ⟨by rw [Bool.and_false],h⟩
@[go_sem ↓] theorem Z2H {bb : Bool} {A : Prop} {K : V → List Ob → Prop} {d : Option Tmp} {x : Operand} {ty : TypeId} {p : String} {af : Array Edge} {g : Option (Nat × Bool)} {dd} : mtS bb (avB (.move x)) A (mutO P lt { dst:=d,op:=.move x,type:=ty,pos:=p,after:=af,guard:=g } s K) dd = A:=Q3a rfl rfl
@[go_sem ↓] theorem Y7Z {bb : Bool} {A : Prop} {K : V → List Ob → Prop} {d : Option Tmp} {x : Operand} {ty : TypeId} {p : String} {af : Array Edge} {g : Option (Nat × Bool)} {dd} : mtS bb (avB (.assign x)) A (mutO P lt { dst:=d,op:=.assign x,type:=ty,pos:=p,after:=af,guard:=g } s K) dd = A:=Q3a rfl rfl
@[go_sem ↓] theorem Z2F {bb : Bool} {A : Prop} {K : V → List Ob → Prop} {d : Option Tmp} {x y z : Operand} {ty : TypeId} {p : String} {af : Array Edge} {g : Option (Nat × Bool)} {dd} : mtS bb (avB (.pick x y z)) A (mutO P lt { dst:=d,op:=.pick x y z,type:=ty,pos:=p,after:=af,guard:=g } s K) dd = A:=Q3a rfl rfl
@[go_sem ↓] theorem Z0k {bb : Bool} {A : Prop} {K : V → List Ob → Prop} {d : Option Tmp} {t : TypeId} {ty : TypeId} {p : String} {af : Array Edge} {g : Option (Nat × Bool)} {dd} : mtS bb (avB (.alloc t)) A (mutO P lt { dst:=d,op:=.alloc t,type:=ty,pos:=p,after:=af,guard:=g } s K) dd = A:=Q3a rfl rfl
@[go_sem ↓] theorem Z5g {bb : Bool} {A : Prop} {K : V → List Ob → Prop} {d : Option Tmp} {t : TypeId} {x : Operand} {ty : TypeId} {p : String} {af : Array Edge} {g : Option (Nat × Bool)} {dd} : mtS bb (avB (.box t x)) A (mutO P lt { dst:=d,op:=.box t x,type:=ty,pos:=p,after:=af,guard:=g } s K) dd = A:=Q3a rfl rfl
@[go_sem ↓] theorem Z0j {bb : Bool} {A : Prop} {K : V → List Ob → Prop} {d : Option Tmp} {t : TypeId} {ps : Array (Nat × Operand)} {ty : TypeId} {p : String} {af : Array Edge} {g : Option (Nat × Bool)} {dd} : mtS bb (avB (.build t ps)) A (mutO P lt { dst:=d,op:=.build t ps,type:=ty,pos:=p,after:=af,guard:=g } s K) dd = A:=Q3a rfl rfl
@[go_sem ↓] theorem Z2I {bb : Bool} {A : Prop} {K : V → List Ob → Prop} {d : Option Tmp} {t : TypeId} {x : Operand} {ty : TypeId} {p : String} {af : Array Edge} {g : Option (Nat × Bool)} {dd} : mtS bb (avB (.load t x)) A (mutO P lt { dst:=d,op:=.load t x,type:=ty,pos:=p,after:=af,guard:=g } s K) dd = A:=Q3a rfl rfl
@[go_sem ↓] theorem Z0f {bb : Bool} {A : Prop} {K : V → List Ob → Prop} {d : Option Tmp} {t : TypeId} {x y : Operand} {ty : TypeId} {p : String} {af : Array Edge} {g : Option (Nat × Bool)} {dd} : mtS bb (avB (.store t x y)) A (mutO P lt { dst:=d,op:=.store t x y,type:=ty,pos:=p,after:=af,guard:=g } s K) dd = A:=Q3a rfl rfl
@[go_sem ↓] theorem Z2G {bb : Bool} {A : Prop} {K : V → List Ob → Prop} {d : Option Tmp} {x : Operand} {ty : TypeId} {p : String} {af : Array Edge} {g : Option (Nat × Bool)} {dd} : mtS bb (avB (.nilCheck x)) A (mutO P lt { dst:=d,op:=.nilCheck x,type:=ty,pos:=p,after:=af,guard:=g } s K) dd = A:=Q3a rfl rfl
@[go_sem ↓] theorem Z5h {bb : Bool} {A : Prop} {K : V → List Ob → Prop} {d : Option Tmp} {b : BinOp} {t u : TypeId} {x y : Operand} {ty : TypeId} {p : String} {af : Array Edge} {g : Option (Nat × Bool)} {dd} : mtS bb (avB (.binOp b t x y u)) A (mutO P lt { dst:=d,op:=.binOp b t x y u,type:=ty,pos:=p,after:=af,guard:=g } s K) dd = A:=Q3a rfl rfl
@[go_sem ↓] theorem Z6W {bb : Bool} {A : Prop} {K : V → List Ob → Prop} {d : Option Tmp} {b : UnOp} {t : TypeId} {x : Operand} {ty : TypeId} {p : String} {af : Array Edge} {g : Option (Nat × Bool)} {dd} : mtS bb (avB (.unOp b t x)) A (mutO P lt { dst:=d,op:=.unOp b t x,type:=ty,pos:=p,after:=af,guard:=g } s K) dd = A:=Q3a rfl rfl
@[go_sem ↓] theorem Z6Z {bb : Bool} {A : Prop} {K : V → List Ob → Prop} {d : Option Tmp} {t : TypeId} {n : Nat} {x : Operand} {ty : TypeId} {p : String} {af : Array Edge} {g : Option (Nat × Bool)} {dd} : mtS bb (avB (.fieldAddr t x n)) A (mutO P lt { dst:=d,op:=.fieldAddr t x n,type:=ty,pos:=p,after:=af,guard:=g } s K) dd = A:=Q3a rfl rfl
@[go_sem ↓] theorem Z6Y {bb : Bool} {A : Prop} {K : V → List Ob → Prop} {d : Option Tmp} {t : TypeId} {n : Nat} {x : Operand} {ty : TypeId} {p : String} {af : Array Edge} {g : Option (Nat × Bool)} {dd} : mtS bb (avB (.field t x n)) A (mutO P lt { dst:=d,op:=.field t x n,type:=ty,pos:=p,after:=af,guard:=g } s K) dd = A:=Q3a rfl rfl
@[go_sem ↓] theorem Z6X {bb : Bool} {A : Prop} {K : V → List Ob → Prop} {d : Option Tmp} {t : TypeId} {x y : Operand} {ty : TypeId} {p : String} {af : Array Edge} {g : Option (Nat × Bool)} {dd} : mtS bb (avB (.indexAddr t x y)) A (mutO P lt { dst:=d,op:=.indexAddr t x y,type:=ty,pos:=p,after:=af,guard:=g } s K) dd = A:=Q3a rfl rfl
@[go_sem ↓] theorem Z7a {bb : Bool} {A : Prop} {K : V → List Ob → Prop} {d : Option Tmp} {n : Nat} {x : Operand} {ty : TypeId} {p : String} {af : Array Edge} {g : Option (Nat × Bool)} {dd} : mtS bb (avB (.extract x n)) A (mutO P lt { dst:=d,op:=.extract x n,type:=ty,pos:=p,after:=af,guard:=g } s K) dd = A:=Q3a rfl rfl
@[go_sem ↓] theorem Z0g {bb : Bool} {A : Prop} {K : V → List Ob → Prop} {d : Option Tmp} {t : TypeId} {x : Operand} {i j k : Option Operand} {ty : TypeId} {p : String} {af : Array Edge} {g : Option (Nat × Bool)} {dd} : mtS bb (avB (.slice t x i j k)) A (mutO P lt { dst:=d,op:=.slice t x i j k,type:=ty,pos:=p,after:=af,guard:=g } s K) dd = A:=Q3a rfl rfl
@[go_sem ↓] theorem Y6a {t : TypeId} {x : Operand} {i j k : Option Operand} : sepO lt (.slice t x i j k) s = True:=(rfl)
@[go_sem ↓] theorem Y7Y {bb : Bool} {A : Prop} {K : V → List Ob → Prop} {d : Option Tmp} {ar : Array Operand} {ts : Array TypeId} {ty : TypeId} {p : String} {af : Array Edge} {g : Option (Nat × Bool)} {dd} : mtS bb (avB (.call { callee:=.builtin .len,args:=ar,argTypes:=ts })) A (mutO P lt { dst:=d,op:=.call { callee:=.builtin .len,args:=ar,argTypes:=ts },type:=ty,pos:=p,after:=af,guard:=g } s K) dd = A:=Q3a rfl rfl
@[go_sem ↓] theorem Z5a {v : V} : nre v .any = True:=by simp [nre]
def lcV (s : St) : List Nat → List V
 | []=>[]
 | u :: lt=>if u < 1000000 then lcV s lt else s.get (u - 1000000) :: lcV s lt
@[go_sem ↓] theorem Z5x : lcV s [] = []:=(rfl)
@[go_sem ↓] theorem Y4H {u : Nat} : lcV s (u :: lt) = if u < 1000000 then lcV s lt else s.get (u - 1000000) :: lcV s lt:=(rfl)
theorem X6E {t : Nat} : ∀ {lt : List Nat},1000000 + t ∈ lt → s.get t ∈ lcV s lt
 | u :: lt,h=>by
  rw [Y4H]
  rcases List.mem_cons.1 h with h | h
  ·rw [if_neg (by omega),show u - 1000000 = t by omega]; exact List.mem_cons_self
  ·split
   ·exact X6E h
   ·exact List.mem_cons_of_mem _ (X6E h)
def lcO (js : List Nat) : List V → Prop
 | []=>True
 | .ref id _ :: l=>js.elem id = false ∧ lcO js l
 | _ :: l=>lcO js l
@[go_sem ↓] theorem Z5z {js : List Nat} : lcO js [] = True:=(rfl)
@[go_sem ↓] theorem Z5y {js : List Nat} {id off : Nat} {l : List V} : lcO js (.ref id off :: l) = (js.elem id = false ∧ lcO js l):=(rfl)
@[go_sem ↓] theorem Z3s {n : Nat} : List.elem n [] = false:=(rfl)
@[go_sem ↓] theorem Z0U {n m : Nat} {l : List Nat} : List.elem n (m :: l) = if n = m then true else List.elem n l:=by
 rw [List.elem_cons]
 by_cases e : n = m
 ·subst e; simp
 ·rw [if_neg e,beq_eq_false_iff_ne.2 e]
theorem X6F {js : List Nat} : ∀ {l : List V},lcO js l → ∀ v ∈ l,∀ id off,v = .ref id off → id ∉ js
 | [],_,v,hv=>by simp at hv
 | u :: l,h,v,hv=>by
  intro id off e
  rcases List.mem_cons.1 hv with rfl | hv
  ·subst e
   have h1 : js.elem id = false:=h.1
   intro hm
   rw [List.elem_eq_true_of_mem hm] at h1; cases h1
  ·have h2 : lcO js l:=by
    cases u with
    | ref _ _=>exact h.2
    | _=>exact h
   exact X6F h2 v hv id off e
theorem mtL {b c : Bool} {A M : Prop} {d : Tr (A,M)} (h : A) (hc : (b && c) = false:=by rfl) : mtS b c A M d:=.inl ⟨hc,h⟩
theorem X6z : ∀ {js : List Nat} {H H1 : List Ob} {i : Nat} {ob : Ob},i ∉ js → H[i]? = some ob → (putO H js H1)[i]? = some ob
 | [],H,[],i,ob,_,h=>h
 | [],H,_ :: _,i,ob,_,h=>h
 | _ :: _,H,[],i,ob,_,h=>h
 | j :: js,H,o :: H1,i,ob,hi,h=>by
  have h1 : i ≠ j:=fun e=>hi (by simp [e])
  have h2 : i ∉ js:=fun e=>hi (by simp [e])
  show (putO (H.set j o) js H1)[i]? = some ob
  exact X6z h2 (by rw [List.getElem?_set,if_neg (fun e=>h1 e.symm)]; exact h)
theorem callGL {c : Bool} {g : FuncId} {args : List V} {r : V} {H0 H1 : List Ob} {A : Prop} {K : V → List Ob → Prop} {d : Option Tmp} {f : Operand} {l : List Operand} {ts : Array TypeId} {ty : TypeId} {p : String} {af : Array Edge} {dd} (js : List Nat) (h : GC P g args H0 r H1)
  (hf : s.ev f = .fn (.func g) [] []) (hnd : js.Nodup) (hok : hdOk s.hp js H0) (hag : AgL s.hp js (l.map s.ev) args) (hl : js.length ≤ H1.length) (hfl : ∀ ob ∈ H1,ob.st ≠ .res ∧ ∀ c ∈ ob.cs,c.flat)
  (hlt : lcO js (lcV s lt)) (hk : K (r.rn (rnI js s.hp.length)) (putO s.hp js H1 ++ tailO js H1)) :
  mtS true c A (mutO P lt { dst:=d,op:=.call { callee:=.value f,args:=l.toArray,argTypes:=ts },type:=ty,pos:=p,after:=af,guard:=none } s K) dd:=by
 refine .inr ⟨rfl,js,_,_,rfl,fun ρ' hr E a w κ S uss hs=>?_,fun i hi ob ho=>?_,fun t ht id off e=>X6F hlt _ (X6E ht) id off e,hk⟩
 ·have hrf : ρ' f = .fn (.func g) [] []:=by rw [hr f (by simp [Op.operands,Call.operands]),hf]
  have hrl : l.map ρ' = l.map s.ev:=List.map_congr_left fun x hx=>hr x (by simp [Op.operands,Call.operands,hx])
  obtain ⟨v,H',hK,hv⟩:=X4P (P:=P) (ρ:=ρ') (H:=s.hp) (K:=fun v H=>v = r.rn (rnI js s.hp.length) ∧ H = putO s.hp js H1 ++ tailO js H1) (o:={ dst:=d,op:=.call { callee:=.value f,args:=l.toArray,argTypes:=ts },type:=ty,pos:=p,after:=af,guard:=none }) rfl (by
   unfold callG
   rw [hrf]
   refine ⟨js,args,H0,r,H1,hnd,hok, ?_,h,hl,hfl,rfl,rfl⟩
   show AgL s.hp js ([] ++ l.map ρ' ++ []) args
   rw [hrl,List.nil_append,List.append_nil]; exact hag)
  obtain ⟨rfl,rfl⟩:=hK
  exact hv hs
 ·rw [List.getElem?_append_left]
  ·exact X6z hi ho
  ·exact (List.getElem?_eq_some_iff.1 (X6z (H1:=H1) hi ho)).1
theorem mutV {c : Bool} {A : Prop} {o : Oper} {K : V → List Ob → Prop} {dd} (js : List Nat) {v : V} {H' : List Ob} (hm : mvB o.op = true)
  (hs : ∀ ρ' : Operand → V,(∀ x ∈ o.op.operands,ρ' x = s.ev x) → ∀ (E : Env) (a : Act) (w : World) (κ : KM) (S : BS) (uss : List (List Nat)),Sees E s.hp ρ' a w κ S uss → VOk P E o a w κ S v H')
  (hp : ∀ i,i ∉ js → ∀ ob,s.hp[i]? = some ob → H'[i]? = some ob) (hlt : lcO js (lcV s lt)) (hk : K v H') : mtS true c A (mutO P lt o s K) dd :=
 .inr ⟨rfl,js,v,H',hm,hs,hp,fun t ht id off e=>X6F hlt _ (X6E ht) id off e,hk⟩
theorem mtDel {c : Bool} {A0 : Prop} {d : Option Tmp} {K : V → List Ob → Prop} {ty : TypeId} {p : String} {af : Array Edge} {x y : Operand} {t e : TypeId} {dd} {sz : Nat} {A X B : List V} {ob : Ob} (id i k : Nat)
  (ht : tsl P t = some (e,sz)) (hsp : 0 < sz) (hx : s.ev x = .rsl id sz 0 i) (hy : (k = 0 ∧ s.ev y = .sl .s sz 0 []) ∨ s.ev y = .rsl id sz (i + 1) k) (hoi : s.hp[id]? = some ob) (host : ob.st = .own)
  (hcs : ob.cs = A ++ X ++ B) (hA : A.length = i * sz) (hX : X.length = sz) (hB : B.length = k * sz) (hcell : ∀ c ∈ B,c.cell) (hlt : lcO [id] (lcV s lt))
  (hk : K (.rsl id sz 0 (i + k)) (s.hp.set id { ob with cs:=A ++ B })) :
  mtS true c A0 (mutO P lt { dst:=d,op:=.call { callee:=.builtin .append,args:=#[x,y],argTypes:=#[t,t] },type:=ty,pos:=p,after:=af,guard:=none } s K) dd:=by
 refine mutV [id] rfl (fun ρ' hr E a w κ S uss hsee=>?_) (fun j hj ob' ho=>?_) hlt hk
 ·have e1 : ρ' x = s.ev x:=hr x (by simp [Op.operands,Call.operands])
  have e2 : ρ' y = s.ev y:=hr y (by simp [Op.operands,Call.operands])
  exact Y3p rfl ht hsp (by rw [e1]; exact hx) (by rw [e2]; exact hy) hoi host hcs hA hX hB hcell hsee
 ·rw [List.getElem?_set,if_neg (fun e=>hj (by simp [e]))]; exact ho
theorem mtBsl {c : Bool} {A0 : Prop} {d : Option Tmp} {K : V → List Ob → Prop} {ty : TypeId} {p : String} {af : Array Edge} {t : TypeId} {n : Nat} {l : List (Nat × Operand)} {dd} {v : V} {H' : List Ob} (js : List Nat)
  (h : bslO P t n (l.map fun q=>(q.1,s.ev q.2)) s.hp (fun v0 H0=>v0 = v ∧ H0 = H')) (hp : ∀ i,i ∉ js → ∀ ob,s.hp[i]? = some ob → H'[i]? = some ob) (hlt : lcO js (lcV s lt)) (hk : K v H') :
  mtS true c A0 (mutO P lt { dst:=d,op:=.buildSlice t n l.toArray,type:=ty,pos:=p,after:=af,guard:=none } s K) dd:=by
 refine mutV js rfl (fun ρ' hr E a w κ S uss hsee=>?_) hp hlt hk
 have e1 : (l.map fun q=>(q.1,ρ' q.2)) = l.map fun q=>(q.1,s.ev q.2):=List.map_congr_left fun q hq=>by
  rw [hr q.2 (by simp [Op.operands]; exact ⟨_,hq⟩)]
 obtain ⟨v0,H0,⟨rfl,rfl⟩,hv⟩:=X6f (P:=P) (ρ:=ρ') (H:=s.hp) (K:=fun v0 H0=>v0 = v ∧ H0 = H') (o:={ dst:=d,op:=.buildSlice t n l.toArray,type:=ty,pos:=p,after:=af,guard:=none }) rfl (by
  show bslO P t n (l.map fun q=>(q.1,ρ' q.2)) s.hp _
  rw [e1]; exact h)
 exact hv hsee
theorem mtApp {c : Bool} {A0 : Prop} {d : Option Tmp} {K : V → List Ob → Prop} {ty : TypeId} {p : String} {af : Array Edge} {t : TypeId} {x y : Operand} {dd} {v : V} {H' : List Ob} (js : List Nat)
  (h : appM P t (s.ev x) (s.ev y) s.hp (fun v0 H0=>v0 = v ∧ H0 = H')) (hp : ∀ i,i ∉ js → ∀ ob,s.hp[i]? = some ob → H'[i]? = some ob) (hlt : lcO js (lcV s lt)) (hk : K v H') :
  mtS true c A0 (mutO P lt { dst:=d,op:=.call { callee:=.builtin .append,args:=#[x,y],argTypes:=#[t,t] },type:=ty,pos:=p,after:=af,guard:=none } s K) dd:=by
 refine mutV js rfl (fun ρ' hr E a w κ S uss hsee=>?_) hp hlt hk
 have e1 : ρ' x = s.ev x:=hr x (by simp [Op.operands,Call.operands])
 have e2 : ρ' y = s.ev y:=hr y (by simp [Op.operands,Call.operands])
 obtain ⟨v0,H0,⟨rfl,rfl⟩,hv⟩:=X6h (P:=P) (ρ:=ρ') (H:=s.hp) (K:=fun v0 H0=>v0 = v ∧ H0 = H') (o:={ dst:=d,op:=.call { callee:=.builtin .append,args:=#[x,y],argTypes:=#[t,t] },type:=ty,pos:=p,after:=af,guard:=none }) rfl (by
  rw [e1,e2]; exact h)
 exact hv hsee
def hkp (js : List Nat) : Nat → List Ob → List Ob → Prop
 | _,[],_=>True
 | _,_ :: _,[]=>False
 | n,a :: H,b :: H'=>(List.elem n js = true ∨ a = b) ∧ hkp js (n + 1) H H'
@[go_sem ↓] theorem Z5E {js : List Nat} {n : Nat} {H : List Ob} : hkp js n [] H = True:=by cases H <;> rfl
@[go_sem ↓] theorem Z3f {js : List Nat} {n : Nat} {a : Ob} {H H' : List Ob} : hkp js n (a :: H) (a :: H') = hkp js (n + 1) H H':=by simp [hkp]
def hkE (e : Bool) (a b : Ob) (p : Prop) : Prop:=(e = true ∨ a = b) ∧ p
@[congr] theorem Z0C {e e' : Bool} {a b : Ob} {p : Prop} (h : e = e') : hkE e a b p = hkE e' a b p:=by rw [h]
@[go_sem ↓] theorem Z3h {a b : Ob} {p : Prop} : hkE true a b p = p:=by simp [hkE]
@[go_sem ↓] theorem Z0B {a b : Ob} {p : Prop} : hkE false a b p = (a = b ∧ p):=by simp [hkE]
@[go_sem] theorem Z3g {js : List Nat} {n : Nat} {a b : Ob} {H H' : List Ob} : hkp js n (a :: H) (b :: H') = hkE (List.elem n js) a b (hkp js (n + 1) H H'):=(rfl)
theorem Y0m {js : List Nat} : ∀ {H H' : List Ob} {n : Nat},hkp js n H H' → ∀ i,i + n ∉ js → ∀ ob,H[i]? = some ob → H'[i]? = some ob
 | [],_,_,_,i,_,ob,h=>by simp at h
 | a :: H,[],_,h,_,_,_,_=>h.elim
 | a :: H,b :: H',n,h,0,hi,ob,ho=>by
  rcases h.1 with h1 | rfl
  ·exact absurd (List.mem_of_elem_eq_true h1) (by simpa using hi)
  ·exact ho
 | a :: H,b :: H',n,h,i + 1,hi,ob,ho=>by
  have:=Y0m h.2 i (by rw [show i + (n + 1) = i + 1 + n by omega]; exact hi) ob (by simpa using ho)
  simpa using this
theorem hkp0 {js : List Nat} {H H' : List Ob} (h : hkp js 0 H H') : ∀ i,i ∉ js → ∀ ob,H[i]? = some ob → H'[i]? = some ob:=fun i hi=>Y0m h i hi
end
theorem Y1T {H : List Ob} {js : List (Option Nat)} {bk : Bool} : ∀ {L L' : List V} {i : Nat} {ks : List Nat},L.length = L'.length → i < L.length → (∀ (v v' : V),L[i]? = some v → L'[i]? = some v' → Rn H js bk v v' ks) → (∀ (j : Nat) (v v' : V),j ≠ i → L[j]? = some v → L'[j]? = some v' → Rn H js bk v v' []) → RnL H js bk L L' ks
 | [],[],i,ks,_,hi,_,_=>by simp at hi
 | v :: L,v' :: L',0,ks,hl,hi,h1,h2=>by
  have q : RnL H js bk L L' []:=by
   have go : ∀ {L L' : List V},L.length = L'.length → (∀ (j : Nat) (v v' : V),L[j]? = some v → L'[j]? = some v' → Rn H js bk v v' []) → RnL H js bk L L' []:=by
    intro L
    induction L with
    | nil=>intro L' hl _; cases L' with
     | nil=>exact .nil _ _
     | cons _ _=>simp at hl
    | cons a L ih=>intro L' hl h; cases L' with
     | nil=>simp at hl
     | cons a' L'=>exact .cons _ _ _ _ _ _ [] [] (h 0 a a' rfl rfl) (ih (by simpa using hl) (fun j v v' e1 e2=>h (j + 1) v v' (by simpa using e1) (by simpa using e2)))
   exact go (by simpa using hl) (fun j w w' e1 e2=>h2 (j + 1) w w' (by omega) (by simpa using e1) (by simpa using e2))
  have:=RnL.cons js bk v v' L L' ks [] (h1 v v' rfl rfl) q
  rwa [List.append_nil] at this
 | v :: L,v' :: L',i + 1,ks,hl,hi,h1,h2=>by
  have q : RnL H js bk L L' ks:=Y1T (i:=i) (by simpa using hl) (by simpa using hi) (fun w w' e1 e2=>h1 w w' (by simpa using e1) (by simpa using e2)) (fun j w w' hj e1 e2=>h2 (j + 1) w w' (by omega) (by simpa using e1) (by simpa using e2))
  have:=RnL.cons js bk v v' L L' [] ks (h2 0 v v' (by omega) rfl rfl) q
  simpa using this
theorem Q2f {L : List V} {j : Nat} {v : V} (h : (L.drop j)[0]? = some v) (hv : v.nu) : (∀ c ∈ (L.drop j).take 1,c.nu) = True:=by
 refine eq_true fun c hc=>?_
 cases e : L.drop j with
 | nil=>rw [e] at h; simp at h
 | cons a r =>
  rw [e] at h hc
  simp only [List.getElem?_cons_zero,Option.some.injEq] at h
  simp only [List.take_succ_cons,List.take_zero,List.mem_cons,List.not_mem_nil,or_false] at hc
  subst hc; subst h; exact hv
theorem cutLR {K : St → Prop} {s : St} {G : Prop} (h1 : K s → G) (h2 : K s) : G:=h1 h2
def gL (m : Nat) (h : Nat → V) : List V:=(List.range m).map h
theorem Q0w {m : Nat} {h : Nat → V} : (gL m h).length = m:=by simp [gL]
theorem gL_at {m i : Nat} {h : Nat → V} (hi : OM (i < m)) : ((gL m h).drop i)[0]? = some (h i):=by
 have hi : i < m:=hi
 rw [List.getElem?_drop,Nat.add_zero,gL,List.getElem?_map,List.getElem?_range hi]; rfl
theorem X4u {m i : Nat} {h : Nat → V} (hi : i < m) : (gL m h)[i]? = some (h i):=by rw [gL,List.getElem?_map,List.getElem?_range hi]; rfl
def updV (h : Nat → V) (i : Nat) (v : V) : Nat → V:=fun a=>if a = i then v else h a
theorem Q0v {h : Nat → V} {i : Nat} {v : V} : updV h i v i = v:=if_pos rfl
theorem Q1p {h : Nat → V} {i a : Nat} {v : V} (e : a ≠ i) : updV h i v a = h a:=if_neg e
theorem X6a {m i : Nat} {h : Nat → V} {v : V} : (gL m h).set i v = gL m (updV h i v):=by
 apply List.ext_getElem?
 intro a
 rw [List.getElem?_set]
 simp only [gL,List.length_map,List.length_range,List.getElem?_map]
 by_cases ha : a < m
 ·rw [List.getElem?_range ha]
  unfold updV
  by_cases e : i = a
  ·subst e; simp [ha]
  ·simp [e,Ne.symm e]
 ·rw [List.getElem?_eq_none (l:=List.range m) (by rw [List.length_range]; omega)]
  by_cases e : i = a
  ·subst e; simp [ha]
  ·simp [e]
theorem Y5E {m : Nat} {h : Nat → V} {v : V} (hv : v ∈ gL m h) : ∃ i,i < m ∧ v = h i:=by
 obtain ⟨i,hi,rfl⟩:=List.mem_map.1 hv
 exact ⟨i,List.mem_range.1 hi,rfl⟩
theorem X6b {H : List Ob} {js : List (Option Nat)} {bk : Bool} {m i : Nat} {h h' : Nat → V} {ks : List Nat} (hi : i < m) (h1 : Rn H js bk (h i) (h' i) ks) (h2 : ∀ a,a < m → a ≠ i → Rn H js bk (h a) (h' a) []) : RnL H js bk (gL m h) (gL m h') ks:=by
 refine Y1T (i:=i) (by rw [Q0w,Q0w]) (by rw [Q0w]; exact hi) (fun v v' e1 e2=>?_) (fun a v v' ha e1 e2=>?_)
 ·rw [X4u hi] at e1 e2
  obtain rfl:=Option.some.inj e1
  obtain rfl:=Option.some.inj e2
  exact h1
 ·by_cases q : a < m
  ·rw [X4u q] at e1 e2
   obtain rfl:=Option.some.inj e1
   obtain rfl:=Option.some.inj e2
   exact h2 a q ha
  ·rw [List.getElem?_eq_none (by rw [Q0w]; omega)] at e1; cases e1
theorem Y5D {H : List Ob} {js : List (Option Nat)} {bk : Bool} {m : Nat} {h h' : Nat → V} (h2 : ∀ a,a < m → Rn H js bk (h a) (h' a) []) : RnL H js bk (gL m h) (gL m h') []:=by
 cases m with
 | zero=>exact .nil _ _
 | succ m=>exact X6b (i:=0) (by omega) (h2 0 (by omega)) (fun a ha _=>h2 a ha)
theorem X3B {m : Nat} {h h' : Nat → V} (e : ∀ i,i < m → h i = h' i) : gL m h = gL m h':=List.map_congr_left fun i hi=>e i (List.mem_range.1 hi)
theorem Y1L {L : List V} {i : Nat} {v : V} (h : OM (i < L.length)) : L.take i ++ [v] ++ L.drop (i + 1) = L.set i v:=by
 have h : i < L.length:=h
 rw [List.set_eq_take_append_cons_drop,if_pos h,List.append_assoc]; rfl
theorem Z1m {m r k : Nat} {β : Nat → Nat} (hr : r < m) : (iC (bL m β)).take r ++ [I k] ++ (iC (bL m β)).drop (r + 1) = iC (bL m fun a=>if a = r then k else β a):=by
 rw [Y1L (OM.mk (by rw [Q0P,X1D]; exact hr))]
 apply List.ext_getElem?
 intro a
 rw [List.getElem?_set]
 simp only [iC,bL,List.length_map,List.length_range,List.getElem?_map]
 by_cases ha : a < m
 ·rw [List.getElem?_range ha]
  by_cases e : r = a
  ·subst e; simp [ha]
  ·simp [e,Ne.symm e]
 ·rw [List.getElem?_eq_none (l:=List.range m) (by rw [List.length_range]; omega)]
  by_cases e : r = a
  ·subst e; simp [ha]
  ·simp [e]
theorem X9T {H : List Ob} {js : List (Option Nat)} {bk : Bool} {k m : Nat} {ty : TypeId} {β : Nat → Nat} (h : H[k]? = some ⟨.own,ty,iC (bL m β)⟩) : Rn H js bk (.rsl k 1 0 m) (.sl .u 1 m (iC (bL m β))) [k]:=by
 have e : (iC (bL m β)).take (m * 1) = iC (bL m β):=List.take_of_length_le (by rw [Q0P,X1D]; omega)
 refine Rn.cl js bk k 1 m ⟨.own,ty,iC (bL m β)⟩ (iC (bL m β)) [] h rfl (by show m * 1 ≤ _; rw [Q0P,X1D]; omega) ?_
 rw [e]
 exact RnL.lits
@[go_sem] theorem le_uI {H : List Ob} {n : Nat} {l : List Int} : Le H .b (.sl .u 1 n (iC l)) (.sl .b 1 n (iC l)) = True:=eq_true (.sl _ _ _ _ _ _ (show FlLe .b .u .b from rfl) LeL.lits)
def colL (p : Prg) (j : Nat) : List Int:=(List.range p.rows.toNat).map fun i : Nat=>p.a.getD ((i : Int) * p.cols + j).toNat 0
theorem Q0C {p : Prg} {j : Nat} : (colL p j).length = p.rows.toNat:=by simp [colL]
theorem Y3u {p : Prg} {j i : Nat} (h : i < p.rows.toNat) : (colL p j).take (i + 1) = (colL p j).take i ++ [p.a.getD ((i : Int) * p.cols + j).toNat 0]:=by
 rw [List.take_succ_eq_append_getElem (by rw [Q0C]; exact h)]
 simp [colL]
theorem Q0l {p : Prg} (h : okP' p = true) : (0 ≤ p.rows ∧ p.rows ≤ 20) ∧ (0 ≤ p.cols ∧ p.cols ≤ 40) ∧ (p.a.length : Int) = p.rows * p.cols ∧ (p.b.length : Int) = p.rows ∧ (p.c.length : Int) = p.cols ∧ inB (-100) 100 p.a = true ∧ inB (-100) 100 p.b = true ∧ inB (-100) 100 p.c = true:=by
 simpa [okP',and_assoc] using h
theorem Y0k {i : Nat} {j r c : Int} (h : (i : Int) < r) (r2 : r ≤ 20) (c1 : 0 ≤ c) (c2 : c ≤ 40) (hj : 0 ≤ j ∧ j < c) : 0 ≤ (i : Int) * c ∧ (i : Int) * c + j < r * c ∧ r * c ≤ 800:=by
 have q1 : 0 ≤ (i : Int) * c:=Int.mul_nonneg (by omega) c1
 have q2 : ((i : Int) + 1) * c ≤ r * c:=Int.mul_le_mul_of_nonneg_right (by omega) c1
 rw [Int.add_mul,Int.one_mul] at q2
 have q3 : r * c ≤ 20 * 40:=Int.mul_le_mul r2 c2 c1 (by omega)
 omega
def colO (p : Prg) (j : Int) : List Int:=if okP' p = true ∧ 0 ≤ j ∧ j < p.cols then colL p j.toNat else []
theorem Q6x (f : Fl) (hf : f ≠ .u) (p : Prg) (j : Int) (ho : okP' p = true) (hj : 0 ≤ j ∧ j < p.cols) : GC PP Q3l [.ptr .b (pC f p),I j] [] (.rsl 0 1 0 (colL p j.toNat).length) [⟨.own,T_int,iC (colL p j.toNat)⟩]:=by
 obtain ⟨⟨r1,r2⟩,⟨c1,c2⟩,hal,_⟩:=Q0l ho
 have hll:=Q0C (p:=p) (j:=j.toNat)
 have hls:=@Y3u p j.toNat
 obtain ⟨r,c,la,lb,lc⟩:=p
 simp only at *
 generalize hC : colL ⟨r,c,la,lb,lc⟩ j.toNat = C at *
 refine txg Q8w Q2F 0 [] [] [] rfl (by kernel_rfl) ?_
 simp only [pC]
 simp -dsimp only [go_sem,simprocAttr,hf]
 refine ⟨by omega,by omega,by omega, ?_⟩
 rw [Q6y]
 refine loopI (fun i : Nat=>(i : Int) ≤ r) (fun i=>⟨[(0,.ptr .b [I r,I c,sI f la,sI f lb,sI f lc]),(1,I j),(5,.rsl 0 1 0 r.toNat),(13,I r),(14,I i)],[⟨.own,T_int,iC (C.take i ++ List.replicate (r.toNat - i) 0)⟩]⟩) (fun i=>r.toNat - i) 0 (by omega) ?_ ?_
 ·simp -dsimp only [go_sem,simprocAttr]
  simp; omega
 intro i hi
 simp -dsimp only [go_sem,simprocAttr,hf]
 refine ⟨fun h=>?_,fun h=>?_⟩
 ·obtain ⟨q1,q2,q3⟩:=Y0k h r2 c1 c2 hj
  rw [w64 (n:=(i : Int) * c) (by omega),w64 (n:=(i : Int) * c + j) (by omega)]
  have hlt : ((i : Int) * c + j).toNat < la.length:=by omega
  refine ⟨by omega,by omega,by omega, ?_⟩
  rw [Q0A hlt]
  simp -dsimp only [go_sem,simprocAttr]
  have hl2 : (C.take i ++ List.replicate (r.toNat - i) 0).length = r.toNat:=by simp [hll]; omega
  refine ⟨by omega,by omega,by rw [List.length_replicate]; omega,i + 1,by omega,by omega,by rw [w64 (by omega)]; omega, ?_⟩
  rw [Q0X (by rw [hl2]; omega),Q1U]
  have e:=hls (i:=i) (by omega)
  rw [show (j.toNat : Int) = j by omega] at e
  rw [e,List.set_append_right _ _ (by rw [List.length_take]; omega),List.length_take,Nat.min_eq_left (by omega),Nat.sub_self,show r.toNat - i = (r.toNat - (i + 1)) + 1 by omega,List.replicate_succ,List.set_cons_zero,List.append_assoc]; rfl
 ·have : i = r.toNat:=by omega
  subst this
  rw [Nat.sub_self,List.replicate_zero,List.append_nil,List.take_of_length_le (by omega),hll]
  exact RtG.nothing [some 0] lE (by decide) lS lE
theorem X4r (f : Fl) (hf : f ≠ .u) (p : Prg) (j : Int) (hp : p.small) (hj : -9223372036854775808 ≤ j ∧ j ≤ 9223372036854775807) : GC PP Q4F [pV f p,I j] [] (.rsl 0 1 0 (colO p j).length) [⟨.own,T_int,iC (colO p j)⟩]:=by
 have hP:=Q0B f hf p hp
 have hC:=Q6x f hf p j
 have hok:=@Q0l p
 unfold colO
 generalize okP' p = ok at *
 obtain ⟨r,c,la,lb,lc⟩:=p
 simp only [pV,pC] at *
 refine txg X4X Q7b 0 [] [] [] rfl (by kernel_rfl) ?_
 simp -dsimp only [go_sem,simprocAttr,hf]
 refine callP hP (by simp -dsimp only [go_sem,simprocAttr,hf]) ?_
 simp -dsimp only [go_sem,simprocAttr,hf]
 have none : ∀ H,RtG 0 H .emp (.rsl 0 1 0 ([] : List Int).length) [⟨.own,T_int,iC []⟩]:=fun H=>RtG.ren [none] [[]] trivial (by decide) (by simp -dsimp only [go_sem,simprocAttr]; simp [iC]) (by simp -dsimp only [go_sem,simprocAttr])
 refine ⟨fun h=>?_,fun h=>?_⟩
 ·obtain rfl : ok = true:=by simpa using h
  refine ⟨fun h1=>⟨fun h2=>?_,fun h2=>?_⟩,fun h1=>?_⟩
  ·rw [if_neg (by omega)]; exact none _
  ·have hj' : 0 ≤ j ∧ j < c:=by omega
   refine callO' (hC rfl hj') (by simp -dsimp only [go_sem,simprocAttr,hf]) lF ?_
   simp -dsimp only [go_sem,simprocAttr,hf]
   simp only [hj',and_self,if_true]
   exact RtG.nothing [some 1] lE (by decide) lS lE
  ·rw [if_neg (by omega)]; exact none _
 ·obtain rfl : ok = false:=by simpa using h
  rw [if_neg (by simp)]; exact none _
end Go.Proofs.Ytchlpclgkhggeaa