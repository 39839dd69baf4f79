/- part of the proof -/
import Derived.Test.YtchlpclgkhggeaaVTa
import Derived.Test.YtchlpclgkhggeaaVKa
import Derived.Test.YtchlpclgkhggeaaVGa
import Derived.Test.YtchlpclgkhggeaaVIa
namespace Go.Proofs.Ytchlpclgkhggeaa
open Go Go.RowKit
set_option maxRecDepth 100000
set_option maxHeartbeats 4000000
set_option linter.unusedVariables false
set_option linter.unusedSimpArgs false
def upd1 (g : Nat → FQ) (i : Nat) (x : FQ) : Nat → FQ:=fun a=>if a = i then x else g a
theorem X8t {c j : Nat} {g : Nat → FQ} {x : FQ} : (rowQ c g).set j x = rowQ c (upd1 g j x):=by
 apply List.ext_getElem?
 intro i
 rw [List.getElem?_set]
 simp only [rowQ,List.length_map,List.length_range,List.getElem?_map]
 by_cases hi : i < c
 ·rw [List.getElem?_range hi]
  unfold upd1
  by_cases e : j = i
  ·subst e; simp [hi]
  ·simp [e,Ne.symm e]
 ·rw [List.getElem?_eq_none (l:=List.range c) (by rw [List.length_range]; omega)]
  by_cases e : j = i
  ·subst e; simp [hi]
  ·simp [e]
section
variable {P : Program} {lt : List Nat} {s : St}
theorem Q2K {b c : Bool} {A : Prop} {P : Program} {lt : List Nat} {o : Oper} {s : St} {K : V → List Ob → Prop} {d : Tr (A,mutO P lt o s K)} (h : mvB o.op = false) (hc : c = false) : mtS b c A (mutO P lt o s K) d = A:=by
 subst hc
 unfold mtS mutO
 apply propext; constructor
 ·rintro (⟨_,h'⟩ | ⟨_,js,v,H',q,_⟩)
  ·exact h'
  ·rw [h] at q; cases q
 ·exact fun h=>.inl ⟨by rw [Bool.and_false],h⟩
@[go_sem ↓] theorem Y6f {bb : Bool} {A : Prop} {K : V → List Ob → Prop} {d : Option Tmp} {x : Operand} {ty : TypeId} {p : String} {af : Array Edge} {g : Option (Nat × Bool)} {dd} : mtS bb (avB (.move x)) A (mutO P lt { dst:=d,op:=.move x,type:=ty,pos:=p,after:=af,guard:=g } s K) dd = A:=Q2K rfl rfl
@[go_sem ↓] theorem Y1D {bb : Bool} {A : Prop} {K : V → List Ob → Prop} {d : Option Tmp} {x : Operand} {ty : TypeId} {p : String} {af : Array Edge} {g : Option (Nat × Bool)} {dd} : mtS bb (avB (.assign x)) A (mutO P lt { dst:=d,op:=.assign x,type:=ty,pos:=p,after:=af,guard:=g } s K) dd = A:=Q2K rfl rfl
@[go_sem ↓] theorem Y6d {bb : Bool} {A : Prop} {K : V → List Ob → Prop} {d : Option Tmp} {x y z : Operand} {ty : TypeId} {p : String} {af : Array Edge} {g : Option (Nat × Bool)} {dd} : mtS bb (avB (.pick x y z)) A (mutO P lt { dst:=d,op:=.pick x y z,type:=ty,pos:=p,after:=af,guard:=g } s K) dd = A:=Q2K rfl rfl
@[go_sem ↓] theorem Y3N {bb : Bool} {A : Prop} {K : V → List Ob → Prop} {d : Option Tmp} {t : TypeId} {ty : TypeId} {p : String} {af : Array Edge} {g : Option (Nat × Bool)} {dd} : mtS bb (avB (.alloc t)) A (mutO P lt { dst:=d,op:=.alloc t,type:=ty,pos:=p,after:=af,guard:=g } s K) dd = A:=Q2K rfl rfl
@[go_sem ↓] theorem Y8z {bb : Bool} {A : Prop} {K : V → List Ob → Prop} {d : Option Tmp} {t : TypeId} {x : Operand} {ty : TypeId} {p : String} {af : Array Edge} {g : Option (Nat × Bool)} {dd} : mtS bb (avB (.box t x)) A (mutO P lt { dst:=d,op:=.box t x,type:=ty,pos:=p,after:=af,guard:=g } s K) dd = A:=Q2K rfl rfl
@[go_sem ↓] theorem Y3M {bb : Bool} {A : Prop} {K : V → List Ob → Prop} {d : Option Tmp} {t : TypeId} {ps : Array (Nat × Operand)} {ty : TypeId} {p : String} {af : Array Edge} {g : Option (Nat × Bool)} {dd} : mtS bb (avB (.build t ps)) A (mutO P lt { dst:=d,op:=.build t ps,type:=ty,pos:=p,after:=af,guard:=g } s K) dd = A:=Q2K rfl rfl
@[go_sem ↓] theorem Y6g {bb : Bool} {A : Prop} {K : V → List Ob → Prop} {d : Option Tmp} {t : TypeId} {x : Operand} {ty : TypeId} {p : String} {af : Array Edge} {g : Option (Nat × Bool)} {dd} : mtS bb (avB (.load t x)) A (mutO P lt { dst:=d,op:=.load t x,type:=ty,pos:=p,after:=af,guard:=g } s K) dd = A:=Q2K rfl rfl
@[go_sem ↓] theorem Y3I {bb : Bool} {A : Prop} {K : V → List Ob → Prop} {d : Option Tmp} {t : TypeId} {x y : Operand} {ty : TypeId} {p : String} {af : Array Edge} {g : Option (Nat × Bool)} {dd} : mtS bb (avB (.store t x y)) A (mutO P lt { dst:=d,op:=.store t x y,type:=ty,pos:=p,after:=af,guard:=g } s K) dd = A:=Q2K rfl rfl
@[go_sem ↓] theorem Y6e {bb : Bool} {A : Prop} {K : V → List Ob → Prop} {d : Option Tmp} {x : Operand} {ty : TypeId} {p : String} {af : Array Edge} {g : Option (Nat × Bool)} {dd} : mtS bb (avB (.nilCheck x)) A (mutO P lt { dst:=d,op:=.nilCheck x,type:=ty,pos:=p,after:=af,guard:=g } s K) dd = A:=Q2K rfl rfl
@[go_sem ↓] theorem Y8A {bb : Bool} {A : Prop} {K : V → List Ob → Prop} {d : Option Tmp} {b : BinOp} {t u : TypeId} {x y : Operand} {ty : TypeId} {p : String} {af : Array Edge} {g : Option (Nat × Bool)} {dd} : mtS bb (avB (.binOp b t x y u)) A (mutO P lt { dst:=d,op:=.binOp b t x y u,type:=ty,pos:=p,after:=af,guard:=g } s K) dd = A:=Q2K rfl rfl
@[go_sem ↓] theorem Z0l {bb : Bool} {A : Prop} {K : V → List Ob → Prop} {d : Option Tmp} {b : UnOp} {t : TypeId} {x : Operand} {ty : TypeId} {p : String} {af : Array Edge} {g : Option (Nat × Bool)} {dd} : mtS bb (avB (.unOp b t x)) A (mutO P lt { dst:=d,op:=.unOp b t x,type:=ty,pos:=p,after:=af,guard:=g } s K) dd = A:=Q2K rfl rfl
@[go_sem ↓] theorem Z0n {bb : Bool} {A : Prop} {K : V → List Ob → Prop} {d : Option Tmp} {t : TypeId} {n : Nat} {x : Operand} {ty : TypeId} {p : String} {af : Array Edge} {g : Option (Nat × Bool)} {dd} : mtS bb (avB (.fieldAddr t x n)) A (mutO P lt { dst:=d,op:=.fieldAddr t x n,type:=ty,pos:=p,after:=af,guard:=g } s K) dd = A:=Q2K rfl rfl
@[go_sem ↓] theorem Z0m {bb : Bool} {A : Prop} {K : V → List Ob → Prop} {d : Option Tmp} {t : TypeId} {x y : Operand} {ty : TypeId} {p : String} {af : Array Edge} {g : Option (Nat × Bool)} {dd} : mtS bb (avB (.indexAddr t x y)) A (mutO P lt { dst:=d,op:=.indexAddr t x y,type:=ty,pos:=p,after:=af,guard:=g } s K) dd = A:=Q2K rfl rfl
@[go_sem ↓] theorem Z0o {bb : Bool} {A : Prop} {K : V → List Ob → Prop} {d : Option Tmp} {n : Nat} {x : Operand} {ty : TypeId} {p : String} {af : Array Edge} {g : Option (Nat × Bool)} {dd} : mtS bb (avB (.extract x n)) A (mutO P lt { dst:=d,op:=.extract x n,type:=ty,pos:=p,after:=af,guard:=g } s K) dd = A:=Q2K rfl rfl
@[go_sem ↓] theorem Y3J {bb : Bool} {A : Prop} {K : V → List Ob → Prop} {d : Option Tmp} {t : TypeId} {x : Operand} {i j k : Option Operand} {ty : TypeId} {p : String} {af : Array Edge} {g : Option (Nat × Bool)} {dd} : mtS bb (avB (.slice t x i j k)) A (mutO P lt { dst:=d,op:=.slice t x i j k,type:=ty,pos:=p,after:=af,guard:=g } s K) dd = A:=Q2K rfl rfl
@[go_sem ↓] theorem X9L {t : TypeId} {x : Operand} {i j k : Option Operand} : sepO lt (.slice t x i j k) s = True:=(rfl)
@[go_sem ↓] theorem Y1C {bb : Bool} {A : Prop} {K : V → List Ob → Prop} {d : Option Tmp} {ar : Array Operand} {ts : Array TypeId} {ty : TypeId} {p : String} {af : Array Edge} {g : Option (Nat × Bool)} {dd} : mtS bb (avB (.call { callee:=.builtin .len,args:=ar,argTypes:=ts })) A (mutO P lt { dst:=d,op:=.call { callee:=.builtin .len,args:=ar,argTypes:=ts },type:=ty,pos:=p,after:=af,guard:=g } s K) dd = A:=Q2K rfl rfl
@[go_sem ↓] theorem Y8t {v : V} : nre v .any = True:=by simp [nre]
def lcV (s : St) : List Nat → List V
 | []=>[]
 | u :: lt=>if u < 1000000 then lcV s lt else s.get (u - 1000000) :: lcV s lt
@[go_sem ↓] theorem Y8Q : lcV s [] = []:=(rfl)
@[go_sem ↓] theorem X8F {u : Nat} : lcV s (u :: lt) = if u < 1000000 then lcV s lt else s.get (u - 1000000) :: lcV s lt:=(rfl)
theorem X1T {t : Nat} : ∀ {lt : List Nat},1000000 + t ∈ lt → s.get t ∈ lcV s lt
 | u :: lt,h=>by
  rw [X8F]
  rcases List.mem_cons.1 h with h | h
  ·rw [if_neg (by omega),show u - 1000000 = t by omega]; exact List.mem_cons_self
  ·split
   ·exact X1T h
   ·exact List.mem_cons_of_mem _ (X1T h)
def lcO (js : List Nat) : List V → Prop
 | []=>True
 | .ref id _ :: l=>js.elem id = false ∧ lcO js l
 | _ :: l=>lcO js l
@[go_sem ↓] theorem Y8S {js : List Nat} : lcO js [] = True:=(rfl)
@[go_sem ↓] theorem Y8R {js : List Nat} {id off : Nat} {l : List V} : lcO js (.ref id off :: l) = (js.elem id = false ∧ lcO js l):=(rfl)
@[go_sem ↓] theorem Y6Q {n : Nat} : List.elem n [] = false:=(rfl)
@[go_sem ↓] theorem Y4v {n m : Nat} {l : List Nat} : List.elem n (m :: l) = if n = m then true else List.elem n l:=by
 rw [List.elem_cons]
 by_cases e : n = m
 ·subst e; simp
 ·rw [if_neg e,beq_eq_false_iff_ne.2 e]
theorem X1U {js : List Nat} : ∀ {l : List V},lcO js l → ∀ v ∈ l,∀ id off,v = .ref id off → id ∉ js
 | [],_,v,hv=>by simp at hv
 | u :: l,h,v,hv=>by
  intro id off e
  rcases List.mem_cons.1 hv with rfl | hv
  ·subst e
   have h1 : js.elem id = false:=h.1
   intro hm
   rw [List.elem_eq_true_of_mem hm] at h1; cases h1
  ·have h2 : lcO js l:=by
    cases u with
    | ref _ _=>exact h.2
    | _=>exact h
   exact X1U h2 v hv id off e
theorem mtL {b c : Bool} {A M : Prop} {d : Tr (A,M)} (h : A) (hc : (b && c) = false:=by rfl) : mtS b c A M d:=.inl ⟨hc,h⟩
theorem X1P : ∀ {js : List Nat} {H H1 : List Ob} {i : Nat} {ob : Ob},i ∉ js → H[i]? = some ob → (putO H js H1)[i]? = some ob
 | [],H,[],i,ob,_,h=>h
 | [],H,_ :: _,i,ob,_,h=>h
 | _ :: _,H,[],i,ob,_,h=>h
 | j :: js,H,o :: H1,i,ob,hi,h=>by
  have h1 : i ≠ j:=fun e=>hi (by simp [e])
  have h2 : i ∉ js:=fun e=>hi (by simp [e])
  show (putO (H.set j o) js H1)[i]? = some ob
  exact X1P h2 (by rw [List.getElem?_set,if_neg (fun e=>h1 e.symm)]; exact h)
theorem callGL {c : Bool} {g : FuncId} {args : List V} {r : V} {H0 H1 : List Ob} {A : Prop} {K : V → List Ob → Prop} {d : Option Tmp} {f : Operand} {l : List Operand} {ts : Array TypeId} {ty : TypeId} {p : String} {af : Array Edge} {dd} (js : List Nat) (h : GC P g args H0 r H1)
  (hf : s.ev f = .fn (.func g) [] []) (hnd : js.Nodup) (hok : hdOk s.hp js H0) (hag : AgL s.hp js (l.map s.ev) args) (hl : js.length ≤ H1.length) (hfl : ∀ ob ∈ H1,ob.st ≠ .res ∧ ∀ c ∈ ob.cs,c.flat)
  (hlt : lcO js (lcV s lt)) (hk : K (r.rn (rnI js s.hp.length)) (putO s.hp js H1 ++ tailO js H1)) :
  mtS true c A (mutO P lt { dst:=d,op:=.call { callee:=.value f,args:=l.toArray,argTypes:=ts },type:=ty,pos:=p,after:=af,guard:=none } s K) dd:=by
 refine .inr ⟨rfl,js,_,_,rfl,fun ρ' hr E a w κ S uss hs=>?_,fun i hi ob ho=>?_,fun t ht id off e=>X1U hlt _ (X1T ht) id off e,hk⟩
 ·have hrf : ρ' f = .fn (.func g) [] []:=by rw [hr f (by simp [Op.operands,Call.operands]),hf]
  have hrl : l.map ρ' = l.map s.ev:=List.map_congr_left fun x hx=>hr x (by simp [Op.operands,Call.operands,hx])
  obtain ⟨v,H',hK,hv⟩:=X0A (P:=P) (ρ:=ρ') (H:=s.hp) (K:=fun v H=>v = r.rn (rnI js s.hp.length) ∧ H = putO s.hp js H1 ++ tailO js H1) (o:={ dst:=d,op:=.call { callee:=.value f,args:=l.toArray,argTypes:=ts },type:=ty,pos:=p,after:=af,guard:=none }) rfl (by
   unfold callG
   rw [hrf]
   refine ⟨js,args,H0,r,H1,hnd,hok, ?_,h,hl,hfl,rfl,rfl⟩
   show AgL s.hp js ([] ++ l.map ρ' ++ []) args
   rw [hrl,List.nil_append,List.append_nil]; exact hag)
  obtain ⟨rfl,rfl⟩:=hK
  exact hv hs
 ·rw [List.getElem?_append_left]
  ·exact X1P hi ho
  ·exact (List.getElem?_eq_some_iff.1 (X1P (H1:=H1) hi ho)).1
theorem mutV {c : Bool} {A : Prop} {o : Oper} {K : V → List Ob → Prop} {dd} (js : List Nat) {v : V} {H' : List Ob} (hm : mvB o.op = true)
  (hs : ∀ ρ' : Operand → V,(∀ x ∈ o.op.operands,ρ' x = s.ev x) → ∀ (E : Env) (a : Act) (w : World) (κ : KM) (S : BS) (uss : List (List Nat)),Sees E s.hp ρ' a w κ S uss → VOk P E o a w κ S v H')
  (hp : ∀ i,i ∉ js → ∀ ob,s.hp[i]? = some ob → H'[i]? = some ob) (hlt : lcO js (lcV s lt)) (hk : K v H') : mtS true c A (mutO P lt o s K) dd :=
 .inr ⟨rfl,js,v,H',hm,hs,hp,fun t ht id off e=>X1U hlt _ (X1T ht) id off e,hk⟩
theorem mtDel {c : Bool} {A0 : Prop} {d : Option Tmp} {K : V → List Ob → Prop} {ty : TypeId} {p : String} {af : Array Edge} {x y : Operand} {t e : TypeId} {dd} {sz : Nat} {A X B : List V} {ob : Ob} (id i k : Nat)
  (ht : tsl P t = some (e,sz)) (hsp : 0 < sz) (hx : s.ev x = .rsl id sz 0 i) (hy : (k = 0 ∧ s.ev y = .sl .s sz 0 []) ∨ s.ev y = .rsl id sz (i + 1) k) (hoi : s.hp[id]? = some ob) (host : ob.st = .own)
  (hcs : ob.cs = A ++ X ++ B) (hA : A.length = i * sz) (hX : X.length = sz) (hB : B.length = k * sz) (hcell : ∀ c ∈ B,c.cell) (hlt : lcO [id] (lcV s lt))
  (hk : K (.rsl id sz 0 (i + k)) (s.hp.set id { ob with cs:=A ++ B })) :
  mtS true c A0 (mutO P lt { dst:=d,op:=.call { callee:=.builtin .append,args:=#[x,y],argTypes:=#[t,t] },type:=ty,pos:=p,after:=af,guard:=none } s K) dd:=by
 refine mutV [id] rfl (fun ρ' hr E a w κ S uss hsee=>?_) (fun j hj ob' ho=>?_) hlt hk
 ·have e1 : ρ' x = s.ev x:=hr x (by simp [Op.operands,Call.operands])
  have e2 : ρ' y = s.ev y:=hr y (by simp [Op.operands,Call.operands])
  exact X7x rfl ht hsp (by rw [e1]; exact hx) (by rw [e2]; exact hy) hoi host hcs hA hX hB hcell hsee
 ·rw [List.getElem?_set,if_neg (fun e=>hj (by simp [e]))]; exact ho
theorem mtBsl {c : Bool} {A0 : Prop} {d : Option Tmp} {K : V → List Ob → Prop} {ty : TypeId} {p : String} {af : Array Edge} {t : TypeId} {n : Nat} {l : List (Nat × Operand)} {dd} {v : V} {H' : List Ob} (js : List Nat)
  (h : bslO P t n (l.map fun q=>(q.1,s.ev q.2)) s.hp (fun v0 H0=>v0 = v ∧ H0 = H')) (hp : ∀ i,i ∉ js → ∀ ob,s.hp[i]? = some ob → H'[i]? = some ob) (hlt : lcO js (lcV s lt)) (hk : K v H') :
  mtS true c A0 (mutO P lt { dst:=d,op:=.buildSlice t n l.toArray,type:=ty,pos:=p,after:=af,guard:=none } s K) dd:=by
 refine mutV js rfl (fun ρ' hr E a w κ S uss hsee=>?_) hp hlt hk
 have e1 : (l.map fun q=>(q.1,ρ' q.2)) = l.map fun q=>(q.1,s.ev q.2):=List.map_congr_left fun q hq=>by
  rw [hr q.2 (by simp [Op.operands]; exact ⟨_,hq⟩)]
 obtain ⟨v0,H0,⟨rfl,rfl⟩,hv⟩:=X1w (P:=P) (ρ:=ρ') (H:=s.hp) (K:=fun v0 H0=>v0 = v ∧ H0 = H') (o:={ dst:=d,op:=.buildSlice t n l.toArray,type:=ty,pos:=p,after:=af,guard:=none }) rfl (by
  show bslO P t n (l.map fun q=>(q.1,ρ' q.2)) s.hp _
  rw [e1]; exact h)
 exact hv hsee
theorem mtApp {c : Bool} {A0 : Prop} {d : Option Tmp} {K : V → List Ob → Prop} {ty : TypeId} {p : String} {af : Array Edge} {t : TypeId} {x y : Operand} {dd} {v : V} {H' : List Ob} (js : List Nat)
  (h : appM P t (s.ev x) (s.ev y) s.hp (fun v0 H0=>v0 = v ∧ H0 = H')) (hp : ∀ i,i ∉ js → ∀ ob,s.hp[i]? = some ob → H'[i]? = some ob) (hlt : lcO js (lcV s lt)) (hk : K v H') :
  mtS true c A0 (mutO P lt { dst:=d,op:=.call { callee:=.builtin .append,args:=#[x,y],argTypes:=#[t,t] },type:=ty,pos:=p,after:=af,guard:=none } s K) dd:=by
 refine mutV js rfl (fun ρ' hr E a w κ S uss hsee=>?_) hp hlt hk
 have e1 : ρ' x = s.ev x:=hr x (by simp [Op.operands,Call.operands])
 have e2 : ρ' y = s.ev y:=hr y (by simp [Op.operands,Call.operands])
 obtain ⟨v0,H0,⟨rfl,rfl⟩,hv⟩:=X1y (P:=P) (ρ:=ρ') (H:=s.hp) (K:=fun v0 H0=>v0 = v ∧ H0 = H') (o:={ dst:=d,op:=.call { callee:=.builtin .append,args:=#[x,y],argTypes:=#[t,t] },type:=ty,pos:=p,after:=af,guard:=none }) rfl (by
  rw [e1,e2]; exact h)
 exact hv hsee
def hkp (js : List Nat) : Nat → List Ob → List Ob → Prop
 | _,[],_=>True
 | _,_ :: _,[]=>False
 | n,a :: H,b :: H'=>(List.elem n js = true ∨ a = b) ∧ hkp js (n + 1) H H'
@[go_sem ↓] theorem Y8X {js : List Nat} {n : Nat} {H : List Ob} : hkp js n [] H = True:=by cases H <;> rfl
@[go_sem ↓] theorem Y6D {js : List Nat} {n : Nat} {a : Ob} {H H' : List Ob} : hkp js n (a :: H) (a :: H') = hkp js (n + 1) H H':=by simp [hkp]
def hkE (e : Bool) (a b : Ob) (p : Prop) : Prop:=(e = true ∨ a = b) ∧ p
@[congr] theorem Y4e {e e' : Bool} {a b : Ob} {p : Prop} (h : e = e') : hkE e a b p = hkE e' a b p:=by rw [h]
@[go_sem ↓] theorem Y6F {a b : Ob} {p : Prop} : hkE true a b p = p:=by simp [hkE]
@[go_sem ↓] theorem Y4d {a b : Ob} {p : Prop} : hkE false a b p = (a = b ∧ p):=by simp [hkE]
@[go_sem] theorem Y6E {js : List Nat} {n : Nat} {a b : Ob} {H H' : List Ob} : hkp js n (a :: H) (b :: H') = hkE (List.elem n js) a b (hkp js (n + 1) H H'):=(rfl)
theorem X4M {js : List Nat} : ∀ {H H' : List Ob} {n : Nat},hkp js n H H' → ∀ i,i + n ∉ js → ∀ ob,H[i]? = some ob → H'[i]? = some ob
 | [],_,_,_,i,_,ob,h=>by simp at h
 | a :: H,[],_,h,_,_,_,_=>h.elim
 | a :: H,b :: H',n,h,0,hi,ob,ho=>by
  rcases h.1 with h1 | rfl
  ·exact absurd (List.mem_of_elem_eq_true h1) (by simpa using hi)
  ·exact ho
 | a :: H,b :: H',n,h,i + 1,hi,ob,ho=>by
  have:=X4M h.2 i (by rw [show i + (n + 1) = i + 1 + n by omega]; exact hi) ob (by simpa using ho)
  simpa using this
theorem hkp0 {js : List Nat} {H H' : List Ob} (h : hkp js 0 H H') : ∀ i,i ∉ js → ∀ ob,H[i]? = some ob → H'[i]? = some ob:=fun i hi=>X4M h i hi
end
theorem X6j {H : List Ob} {js : List (Option Nat)} {bk : Bool} : ∀ {L L' : List V} {i : Nat} {ks : List Nat},L.length = L'.length → i < L.length → (∀ (v v' : V),L[i]? = some v → L'[i]? = some v' → Rn H js bk v v' ks) → (∀ (j : Nat) (v v' : V),j ≠ i → L[j]? = some v → L'[j]? = some v' → Rn H js bk v v' []) → RnL H js bk L L' ks
 | [],[],i,ks,_,hi,_,_=>by simp at hi
 | v :: L,v' :: L',0,ks,hl,hi,h1,h2=>by
  have q : RnL H js bk L L' []:=by
   have go : ∀ {L L' : List V},L.length = L'.length → (∀ (j : Nat) (v v' : V),L[j]? = some v → L'[j]? = some v' → Rn H js bk v v' []) → RnL H js bk L L' []:=by
    intro L
    induction L with
    | nil=>intro L' hl _; cases L' with
     | nil=>exact .nil _ _
     | cons _ _=>simp at hl
    | cons a L ih=>intro L' hl h; cases L' with
     | nil=>simp at hl
     | cons a' L'=>exact .cons _ _ _ _ _ _ [] [] (h 0 a a' rfl rfl) (ih (by simpa using hl) (fun j v v' e1 e2=>h (j + 1) v v' (by simpa using e1) (by simpa using e2)))
   exact go (by simpa using hl) (fun j w w' e1 e2=>h2 (j + 1) w w' (by omega) (by simpa using e1) (by simpa using e2))
  have:=RnL.cons js bk v v' L L' ks [] (h1 v v' rfl rfl) q
  rwa [List.append_nil] at this
 | v :: L,v' :: L',i + 1,ks,hl,hi,h1,h2=>by
  have q : RnL H js bk L L' ks:=X6j (i:=i) (by simpa using hl) (by simpa using hi) (fun w w' e1 e2=>h1 w w' (by simpa using e1) (by simpa using e2)) (fun j w w' hj e1 e2=>h2 (j + 1) w w' (by omega) (by simpa using e1) (by simpa using e2))
  have:=RnL.cons js bk v v' L L' [] ks (h2 0 v v' (by omega) rfl rfl) q
  simpa using this
theorem Q1J {L : List V} {j : Nat} {v : V} (h : (L.drop j)[0]? = some v) (hv : v.nu) : (∀ c ∈ (L.drop j).take 1,c.nu) = True:=by
 refine eq_true fun c hc=>?_
 cases e : L.drop j with
 | nil=>rw [e] at h; simp at h
 | cons a r =>
  rw [e] at h hc
  simp only [List.getElem?_cons_zero,Option.some.injEq] at h
  simp only [List.take_succ_cons,List.take_zero,List.mem_cons,List.not_mem_nil,or_false] at hc
  subst hc; subst h; exact hv
theorem cutLR {K : St → Prop} {s : St} {G : Prop} (h1 : K s → G) (h2 : K s) : G:=h1 h2
def gL (m : Nat) (h : Nat → V) : List V:=(List.range m).map h
theorem Q0t {m : Nat} {h : Nat → V} : (gL m h).length = m:=by simp [gL]
theorem gL_at {m i : Nat} {h : Nat → V} (hi : OM (i < m)) : ((gL m h).drop i)[0]? = some (h i):=by
 have hi : i < m:=hi
 rw [List.getElem?_drop,Nat.add_zero,gL,List.getElem?_map,List.getElem?_range hi]; rfl
theorem X0k {m i : Nat} {h : Nat → V} (hi : i < m) : (gL m h)[i]? = some (h i):=by rw [gL,List.getElem?_map,List.getElem?_range hi]; rfl
def updV (h : Nat → V) (i : Nat) (v : V) : Nat → V:=fun a=>if a = i then v else h a
theorem Q0q {h : Nat → V} {i : Nat} {v : V} : updV h i v i = v:=if_pos rfl
theorem Q1d {h : Nat → V} {i a : Nat} {v : V} (e : a ≠ i) : updV h i v a = h a:=if_neg e
theorem X1r {m i : Nat} {h : Nat → V} {v : V} : (gL m h).set i v = gL m (updV h i v):=by
 apply List.ext_getElem?
 intro a
 rw [List.getElem?_set]
 simp only [gL,List.length_map,List.length_range,List.getElem?_map]
 by_cases ha : a < m
 ·rw [List.getElem?_range ha]
  unfold updV
  by_cases e : i = a
  ·subst e; simp [ha]
  ·simp [e,Ne.symm e]
 ·rw [List.getElem?_eq_none (l:=List.range m) (by rw [List.length_range]; omega)]
  by_cases e : i = a
  ·subst e; simp [ha]
  ·simp [e]
theorem X9q {m : Nat} {h : Nat → V} {v : V} (hv : v ∈ gL m h) : ∃ i,i < m ∧ v = h i:=by
 obtain ⟨i,hi,rfl⟩:=List.mem_map.1 hv
 exact ⟨i,List.mem_range.1 hi,rfl⟩
theorem X1s {H : List Ob} {js : List (Option Nat)} {bk : Bool} {m i : Nat} {h h' : Nat → V} {ks : List Nat} (hi : i < m) (h1 : Rn H js bk (h i) (h' i) ks) (h2 : ∀ a,a < m → a ≠ i → Rn H js bk (h a) (h' a) []) : RnL H js bk (gL m h) (gL m h') ks:=by
 refine X6j (i:=i) (by rw [Q0t,Q0t]) (by rw [Q0t]; exact hi) (fun v v' e1 e2=>?_) (fun a v v' ha e1 e2=>?_)
 ·rw [X0k hi] at e1 e2
  obtain rfl:=Option.some.inj e1
  obtain rfl:=Option.some.inj e2
  exact h1
 ·by_cases q : a < m
  ·rw [X0k q] at e1 e2
   obtain rfl:=Option.some.inj e1
   obtain rfl:=Option.some.inj e2
   exact h2 a q ha
  ·rw [List.getElem?_eq_none (by rw [Q0t]; omega)] at e1; cases e1
theorem X9p {H : List Ob} {js : List (Option Nat)} {bk : Bool} {m : Nat} {h h' : Nat → V} (h2 : ∀ a,a < m → Rn H js bk (h a) (h' a) []) : RnL H js bk (gL m h) (gL m h') []:=by
 cases m with
 | zero=>exact .nil _ _
 | succ m=>exact X1s (i:=0) (by omega) (h2 0 (by omega)) (fun a ha _=>h2 a ha)
theorem Q9F {m : Nat} {h h' : Nat → V} (e : ∀ i,i < m → h i = h' i) : gL m h = gL m h':=List.map_congr_left fun i hi=>e i (List.mem_range.1 hi)
theorem X6b {L : List V} {i : Nat} {v : V} (h : OM (i < L.length)) : L.take i ++ [v] ++ L.drop (i + 1) = L.set i v:=by
 have h : i < L.length:=h
 rw [List.set_eq_take_append_cons_drop,if_pos h,List.append_assoc]; rfl
theorem Y4M {m r k : Nat} {β : Nat → Nat} (hr : r < m) : (iC (bL m β)).take r ++ [I k] ++ (iC (bL m β)).drop (r + 1) = iC (bL m fun a=>if a = r then k else β a):=by
 rw [X6b (OM.mk (by rw [Q1q,Q8l]; exact hr))]
 apply List.ext_getElem?
 intro a
 rw [List.getElem?_set]
 simp only [iC,bL,List.length_map,List.length_range,List.getElem?_map]
 by_cases ha : a < m
 ·rw [List.getElem?_range ha]
  by_cases e : r = a
  ·subst e; simp [ha]
  ·simp [e,Ne.symm e]
 ·rw [List.getElem?_eq_none (l:=List.range m) (by rw [List.length_range]; omega)]
  by_cases e : r = a
  ·subst e; simp [ha]
  ·simp [e]
theorem X4y {H : List Ob} {js : List (Option Nat)} {bk : Bool} {k m : Nat} {ty : TypeId} {β : Nat → Nat} (h : H[k]? = some ⟨.own,ty,iC (bL m β)⟩) : Rn H js bk (.rsl k 1 0 m) (.sl .u 1 m (iC (bL m β))) [k]:=by
 have e : (iC (bL m β)).take (m * 1) = iC (bL m β):=List.take_of_length_le (by rw [Q1q,Q8l]; omega)
 refine Rn.cl js bk k 1 m ⟨.own,ty,iC (bL m β)⟩ (iC (bL m β)) [] h rfl (by show m * 1 ≤ _; rw [Q1q,Q8l]; omega) ?_
 rw [e]
 exact RnL.lits
@[go_sem] theorem le_uI {H : List Ob} {n : Nat} {l : List Int} : Le H .b (.sl .u 1 n (iC l)) (.sl .b 1 n (iC l)) = True:=eq_true (.sl _ _ _ _ _ _ (show FlLe .b .u .b from rfl) LeL.lits)
theorem Q1t {p : Prg} (h : okP' p = true) : (0 ≤ p.rows ∧ p.rows ≤ 20) ∧ (0 ≤ p.cols ∧ p.cols ≤ 40) ∧ (p.a.length : Int) = p.rows * p.cols ∧ (p.b.length : Int) = p.rows ∧ (p.c.length : Int) = p.cols ∧ inB (-100) 100 p.a = true ∧ inB (-100) 100 p.b = true ∧ inB (-100) 100 p.c = true:=by
 simpa [okP',and_assoc] using h
theorem Q8L {l : List Int} (h : inB (-100) 100 l = true) {i : Nat} (hi : i < l.length) : -100 ≤ l.getD i 0 ∧ l.getD i 0 ≤ 100:=by
 unfold inB at h
 rw [List.all_eq_true] at h
 rw [List.getD_eq_getElem?_getD,List.getElem?_eq_getElem hi,Option.getD_some]
 have:=h _ (List.getElem_mem hi)
 simpa using this
def sml (l : List Int) : Prop:=∀ i,i < l.length → -100 ≤ l.getD i 0 ∧ l.getD i 0 ≤ 100
def rowI (p : Prg) (i : Nat) : List Int:=(p.a.drop (i * p.cols.toNat)).take p.cols.toNat
theorem Q6r {p : Prg} (ho : okP' p = true) {i : Nat} (hi : (i : Int) < p.rows) : ∃ c : Nat,p.cols = c ∧ c ≤ 40 ∧ i * c + c ≤ p.a.length ∧ p.a.length ≤ 800 ∧ (rowI p i).length = c ∧ rowI p i = (p.a.drop (i * c)).take c:=by
 obtain ⟨⟨r1,r2⟩,⟨c1,c2⟩,hal,_⟩:=Q1t ho
 obtain ⟨c,hc⟩ : ∃ c : Nat,p.cols = c:=⟨p.cols.toNat,by omega⟩
 obtain ⟨r,hr⟩ : ∃ r : Nat,p.rows = r:=⟨p.rows.toNat,by omega⟩
 rw [hr,hc,← Int.natCast_mul] at hal
 have h1 : (i + 1) * c ≤ r * c:=Nat.mul_le_mul_right c (by omega)
 have h2 : r * c ≤ 20 * 40:=Nat.mul_le_mul (by omega) (by omega)
 rw [Nat.succ_mul] at h1
 have e : p.cols.toNat = c:=by omega
 refine ⟨c,hc,by omega,by omega,by omega, ?_,by unfold rowI; rw [e]⟩
 unfold rowI
 rw [e,List.length_take,List.length_drop]
 omega
theorem X9H {p : Prg} (ho : okP' p = true) {i : Nat} (hi : (i : Int) < p.rows) : sml (rowI p i):=by
 obtain ⟨c,hc,h40,h1,h2,hl,e⟩:=Q6r ho hi
 obtain ⟨_,_,_,_,_,ia,_⟩:=Q1t ho
 intro k hk
 rw [hl] at hk
 have : (rowI p i).getD k 0 = p.a.getD (i * c + k) 0:=by
  rw [e,List.getD_eq_getElem?_getD,List.getElem?_take_of_lt hk,List.getElem?_drop,← List.getD_eq_getElem?_getD]
 rw [this]
 exact Q8L ia (by omega)
theorem Y4b {l : List Int} {i c : Nat} : ((iC l).drop i).take c = iC ((l.drop i).take c):=by simp [iC,List.map_take,List.map_drop]
def sgR (p : Prg) (i : Nat) : Int:=if p.b.getD i 0 < 0 then -1 else 1
def fstM (p : Prg) (r c : Nat) (i j : Nat) : FQ:=if j < c then FQ.ofInt (sgR p i * (rowI p i).getD j 0) else if j < c + r then FQ.ofInt (if j - c = i then 1 else 0) else FQ.ofInt (sgR p i * p.b.getD i 0)
def fstC (p : Prg) (r c : Nat) : Nat → Nat → FQ
 | 0,_=>FQ.ofInt 0
 | i + 1,j=>if j < c ∨ j = c + r then (fstC p r c i j).add (fstM p r c i j) else fstC p r c i j
theorem Y0Y {m : Nat} {β : Nat → Nat} : bL (m + 1) β = bL m β ++ [(β m : Int)]:=by
 unfold bL; rw [List.range_succ,List.map_append]; rfl
def kp (c : Nat) (s : SP) : Nat → List Nat
 | 0=>[]
 | i + 1=>if s.β i < c then kp c s i ++ [i] else kp c s i
structure PD (p : Prg) (r c : Nat) : Prop where
 r20 : r ≤ 20
 c40 : c ≤ 40
 m : p.lp.m = r
 n : p.lp.n = c
 a : ∀ i j,i < r → j < c → (rowI p i).getD j 0 = p.a.getD (i * c + j) 0 ∧ -100 ≤ p.a.getD (i * c + j) 0 ∧ p.a.getD (i * c + j) 0 ≤ 100
 b : ∀ i,i < r → -100 ≤ p.b.getD i 0 ∧ p.b.getD i 0 ≤ 100
 cc : ∀ j,-100 ≤ p.c.getD j 0 ∧ p.c.getD j 0 ≤ 100
 cn : p.c.getD c 0 = 0
 A : ∀ i j,p.lp.A i j = ((p.a.getD (i * c + j) 0 : Int) : Rat)
 B : ∀ i,p.lp.b i = ((p.b.getD i 0 : Int) : Rat)
 C : ∀ j,p.lp.c j = ((p.c.getD j 0 : Int) : Rat)
theorem X9l {i j r c : Nat} (hi : i < r) (hj : j < c) : i * c + j < r * c:=by
 have : (i + 1) * c ≤ r * c:=Nat.mul_le_mul_right c (by omega)
 rw [Nat.add_mul,Nat.one_mul] at this; omega
theorem PD.mk' {p : Prg} {r c : Nat} (ho : okP' p = true) (hr : p.rows = r) (hc : p.cols = c) : PD p r c:=by
 have hF:=fun i=>@Q6r p ho i
 obtain ⟨⟨r1,r2⟩,⟨c1,c2⟩,hal,hbl,hcl,ia,ib,ic⟩:=Q1t ho
 have hn : p.cols.toNat = c:=by omega
 have hL : p.a.length = r * c:=by rw [hr,hc] at hal; exact_mod_cast hal
 refine ⟨by omega,by omega,by show p.rows.toNat = r; omega,hn,fun i j hi hj=>?_,fun i hi=>Q8L ib (by omega),fun j=>?_, ?_,fun i j=>?_,fun _=>rfl,fun _=>rfl⟩
 ·obtain ⟨c',e1,e2,e3,e4,e5,e6⟩:=hF i (by omega)
  have hcc : c' = c:=by omega
  subst hcc
  refine ⟨?_,Q8L ia (by rw [hL]; exact X9l hi hj)⟩
  rw [e6,List.getD_eq_getElem?_getD,List.getElem?_take_of_lt hj,List.getElem?_drop,← List.getD_eq_getElem?_getD]
 ·by_cases hj : j < p.c.length
  ·exact Q8L ic hj
  ·rw [List.getD_eq_getElem?_getD,List.getElem?_eq_none (by omega)]; exact ⟨by decide,by decide⟩
 ·rw [List.getD_eq_getElem?_getD,List.getElem?_eq_none (by omega)]; rfl
 ·show ((p.a.getD (i * p.cols.toNat + j) 0 : Int) : Rat) = _
  rw [hn]
theorem PD.sgn {p : Prg} {r c : Nat} (h : PD p r c) (i : Nat) : sg p.lp i = ((sgR p i : Int) : Rat):=by
 unfold sg sgR
 rw [h.B]
 by_cases e : p.b.getD i 0 < 0
 ·rw [if_pos e,if_pos (by exact_mod_cast e)]; rfl
 ·rw [if_neg e,if_neg (fun q=>e (by exact_mod_cast q))]; rfl
theorem X6a {p : Prg} {i : Nat} : sgR p i = 1 ∨ sgR p i = -1:=by unfold sgR; split <;> simp
theorem PD.int {p : Prg} {r c : Nat} (h : PD p r c) {i j : Nat} (hi : i < r) (hj : j ≤ c + r) : ∃ z : Int,fstM p r c i j = FQ.ofInt z ∧ (ph1 p.lp).A i j = (z : Rat) ∧ z.natAbs ≤ 100:=by
 unfold fstM
 show ∃ z : Int,_ ∧ (if j < p.lp.n then sg p.lp i * p.lp.A i j else if j < p.lp.n + p.lp.m then (if j = p.lp.n + i then (1 : Rat) else 0) else sg p.lp i * p.lp.b i) = _ ∧ _
 rw [h.n,h.m]
 have hs:=X6a (p:=p) (i:=i)
 by_cases h1 : j < c
 ·obtain ⟨a1,a2,a3⟩:=h.a i j hi h1
  refine ⟨sgR p i * p.a.getD (i * c + j) 0,by rw [if_pos h1,a1],by rw [if_pos h1,h.sgn,h.A,Rat.intCast_mul], ?_⟩
  rcases hs with e | e <;> rw [e] <;> omega
 ·by_cases h2 : j < c + r
  ·refine ⟨if j - c = i then 1 else 0,by rw [if_neg h1,if_pos h2], ?_,by split <;> decide⟩
   rw [if_neg h1,if_pos h2]
   by_cases e : j = c + i
   ·rw [if_pos e,if_pos (by omega)]; rfl
   ·rw [if_neg e,if_neg (by omega)]; rfl
  ·obtain ⟨b1,b2⟩:=h.b i hi
   refine ⟨sgR p i * p.b.getD i 0,by rw [if_neg h1,if_neg h2],by rw [if_neg h1,if_neg h2,h.sgn,h.B,Rat.intCast_mul], ?_⟩
   rcases hs with e | e <;> rw [e] <;> omega
theorem Y3T {a k : Nat} (h : a ≤ 100) (hk : 7 ≤ k) : a ≤ 2 ^ k:=Nat.le_trans (Nat.le_trans h (by decide : 100 ≤ 2 ^ 7)) (Nat.pow_le_pow_right (by decide) hk)
theorem PD.val {p : Prg} {r c : Nat} (h : PD p r c) {i j : Nat} (hi : i < r) (hj : j ≤ c + r) {k : Nat} (hk : 7 ≤ k) (hk2 : k ≤ 696) : FV (fstM p r c i j) ((ph1 p.lp).A i j) k:=by
 obtain ⟨z,e1,e2,e3⟩:=h.int hi hj
 rw [e1,e2]
 exact FV.ofInt (Y3T e3 hk) hk2
theorem PD.bd {p : Prg} {r c : Nat} (h : PD p r c) : Bd p.lp 100 p.lp.m (p.lp.n + p.lp.m) (ph1 p.lp) 1:=Bd.first fun i j hi hj=>by
 obtain ⟨z,_,e2,e3⟩:=h.int (i:=i) (j:=j) (by rw [← h.m]; exact hi) (by rw [← h.m,← h.n]; exact hj)
 exact ⟨z,e2,e3⟩
theorem PD.cost {p : Prg} {r c : Nat} (h : PD p r c) {j : Nat} (hj : j < c ∨ j = c + r) : ∀ i,i ≤ r → FV (fstC p r c i j) (sm i fun a=>(ph1 p.lp).A a j) (8 * i + 7)
 | 0,_=>FV.ofInt (z:=0) (by decide) (by omega)
 | i + 1,hi=>by
  have ih:=PD.cost h hj i (by omega)
  have:=ih.add (h.val (i:=i) (j:=j) (k:=7) (by omega) (by omega) (by omega) (by omega)) (by have:=h.r20; omega)
  show FV (if j < c ∨ j = c + r then (fstC p r c i j).add (fstM p r c i j) else fstC p r c i j) (sm i _ + _) _
  rw [if_pos hj]
  exact this.mono (by omega)
end Go.Proofs.Ytchlpclgkhggeaa