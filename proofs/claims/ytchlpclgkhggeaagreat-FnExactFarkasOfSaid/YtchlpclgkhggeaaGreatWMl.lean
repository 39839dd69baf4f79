/- part of the proof -/
import Derived.Test.YtchlpclgkhggeaaGreatWTd
namespace Go.Proofs.YtchlpclgkhggeaaGreat
open Go Go.RowKit
set_option linter.unusedVariables false
set_option linter.unusedSimpArgs false
set_option maxRecDepth 100000
section
variable {P : Program} {lt : List Nat} {s : St}
theorem Q3E {b c : Bool} {A : Prop} {P : Program} {lt : List Nat} {o : Oper} {s : St} {K : V → List Ob → Prop} {d : Tr (A,mutO P lt o s K)} (h : mvB o.op = false) (hc : c = false) : mtS b c A (mutO P lt o s K) d = A:=by
 subst hc
 unfold mtS mutO
 apply propext; constructor
 ·rintro (⟨_,h'⟩ | ⟨_,js,v,H',q,_⟩)
  ·exact h'
  ·rw [h] at q; cases q
 ·exact fun h=>.inl ⟨by rw [Bool.and_false],h⟩
@[go_sem ↓] theorem Z7c {bb : Bool} {A : Prop} {K : V → List Ob → Prop} {d : Option Tmp} {x : Operand} {ty : TypeId} {p : String} {af : Array Edge} {g : Option (Nat × Bool)} {dd} : mtS bb (avB (.move x)) A (mutO P lt { dst:=d,op:=.move x,type:=ty,pos:=p,after:=af,guard:=g } s K) dd = A:=Q3E rfl rfl
@[go_sem ↓] theorem Z2M {bb : Bool} {A : Prop} {K : V → List Ob → Prop} {d : Option Tmp} {x : Operand} {ty : TypeId} {p : String} {af : Array Edge} {g : Option (Nat × Bool)} {dd} : mtS bb (avB (.assign x)) A (mutO P lt { dst:=d,op:=.assign x,type:=ty,pos:=p,after:=af,guard:=g } s K) dd = A:=Q3E rfl rfl
@[go_sem ↓] theorem Z7a {bb : Bool} {A : Prop} {K : V → List Ob → Prop} {d : Option Tmp} {x y z : Operand} {ty : TypeId} {p : String} {af : Array Edge} {g : Option (Nat × Bool)} {dd} : mtS bb (avB (.pick x y z)) A (mutO P lt { dst:=d,op:=.pick x y z,type:=ty,pos:=p,after:=af,guard:=g } s K) dd = A:=Q3E rfl rfl
@[go_sem ↓] theorem Z4W {bb : Bool} {A : Prop} {K : V → List Ob → Prop} {d : Option Tmp} {t : TypeId} {ty : TypeId} {p : String} {af : Array Edge} {g : Option (Nat × Bool)} {dd} : mtS bb (avB (.alloc t)) A (mutO P lt { dst:=d,op:=.alloc t,type:=ty,pos:=p,after:=af,guard:=g } s K) dd = A:=Q3E rfl rfl
@[go_sem ↓] theorem Z9V {bb : Bool} {A : Prop} {K : V → List Ob → Prop} {d : Option Tmp} {t : TypeId} {x : Operand} {ty : TypeId} {p : String} {af : Array Edge} {g : Option (Nat × Bool)} {dd} : mtS bb (avB (.box t x)) A (mutO P lt { dst:=d,op:=.box t x,type:=ty,pos:=p,after:=af,guard:=g } s K) dd = A:=Q3E rfl rfl
@[go_sem ↓] theorem Z4V {bb : Bool} {A : Prop} {K : V → List Ob → Prop} {d : Option Tmp} {t : TypeId} {ps : Array (Nat × Operand)} {ty : TypeId} {p : String} {af : Array Edge} {g : Option (Nat × Bool)} {dd} : mtS bb (avB (.build t ps)) A (mutO P lt { dst:=d,op:=.build t ps,type:=ty,pos:=p,after:=af,guard:=g } s K) dd = A:=Q3E rfl rfl
@[go_sem ↓] theorem Z7d {bb : Bool} {A : Prop} {K : V → List Ob → Prop} {d : Option Tmp} {t : TypeId} {x : Operand} {ty : TypeId} {p : String} {af : Array Edge} {g : Option (Nat × Bool)} {dd} : mtS bb (avB (.load t x)) A (mutO P lt { dst:=d,op:=.load t x,type:=ty,pos:=p,after:=af,guard:=g } s K) dd = A:=Q3E rfl rfl
@[go_sem ↓] theorem Z4R {bb : Bool} {A : Prop} {K : V → List Ob → Prop} {d : Option Tmp} {t : TypeId} {x y : Operand} {ty : TypeId} {p : String} {af : Array Edge} {g : Option (Nat × Bool)} {dd} : mtS bb (avB (.store t x y)) A (mutO P lt { dst:=d,op:=.store t x y,type:=ty,pos:=p,after:=af,guard:=g } s K) dd = A:=Q3E rfl rfl
@[go_sem ↓] theorem Z7b {bb : Bool} {A : Prop} {K : V → List Ob → Prop} {d : Option Tmp} {x : Operand} {ty : TypeId} {p : String} {af : Array Edge} {g : Option (Nat × Bool)} {dd} : mtS bb (avB (.nilCheck x)) A (mutO P lt { dst:=d,op:=.nilCheck x,type:=ty,pos:=p,after:=af,guard:=g } s K) dd = A:=Q3E rfl rfl
@[go_sem ↓] theorem Z9W {bb : Bool} {A : Prop} {K : V → List Ob → Prop} {d : Option Tmp} {b : BinOp} {t u : TypeId} {x y : Operand} {ty : TypeId} {p : String} {af : Array Edge} {g : Option (Nat × Bool)} {dd} : mtS bb (avB (.binOp b t x y u)) A (mutO P lt { dst:=d,op:=.binOp b t x y u,type:=ty,pos:=p,after:=af,guard:=g } s K) dd = A:=Q3E rfl rfl
@[go_sem ↓] theorem J1Q {bb : Bool} {A : Prop} {K : V → List Ob → Prop} {d : Option Tmp} {b : UnOp} {t : TypeId} {x : Operand} {ty : TypeId} {p : String} {af : Array Edge} {g : Option (Nat × Bool)} {dd} : mtS bb (avB (.unOp b t x)) A (mutO P lt { dst:=d,op:=.unOp b t x,type:=ty,pos:=p,after:=af,guard:=g } s K) dd = A:=Q3E rfl rfl
@[go_sem ↓] theorem J1S {bb : Bool} {A : Prop} {K : V → List Ob → Prop} {d : Option Tmp} {t : TypeId} {n : Nat} {x : Operand} {ty : TypeId} {p : String} {af : Array Edge} {g : Option (Nat × Bool)} {dd} : mtS bb (avB (.fieldAddr t x n)) A (mutO P lt { dst:=d,op:=.fieldAddr t x n,type:=ty,pos:=p,after:=af,guard:=g } s K) dd = A:=Q3E rfl rfl
@[go_sem ↓] theorem J1R {bb : Bool} {A : Prop} {K : V → List Ob → Prop} {d : Option Tmp} {t : TypeId} {x y : Operand} {ty : TypeId} {p : String} {af : Array Edge} {g : Option (Nat × Bool)} {dd} : mtS bb (avB (.indexAddr t x y)) A (mutO P lt { dst:=d,op:=.indexAddr t x y,type:=ty,pos:=p,after:=af,guard:=g } s K) dd = A:=Q3E rfl rfl
@[go_sem ↓] theorem J1T {bb : Bool} {A : Prop} {K : V → List Ob → Prop} {d : Option Tmp} {n : Nat} {x : Operand} {ty : TypeId} {p : String} {af : Array Edge} {g : Option (Nat × Bool)} {dd} : mtS bb (avB (.extract x n)) A (mutO P lt { dst:=d,op:=.extract x n,type:=ty,pos:=p,after:=af,guard:=g } s K) dd = A:=Q3E rfl rfl
@[go_sem ↓] theorem Z4S {bb : Bool} {A : Prop} {K : V → List Ob → Prop} {d : Option Tmp} {t : TypeId} {x : Operand} {i j k : Option Operand} {ty : TypeId} {p : String} {af : Array Edge} {g : Option (Nat × Bool)} {dd} : mtS bb (avB (.slice t x i j k)) A (mutO P lt { dst:=d,op:=.slice t x i j k,type:=ty,pos:=p,after:=af,guard:=g } s K) dd = A:=Q3E rfl rfl
@[go_sem ↓] theorem Z0Y {t : TypeId} {x : Operand} {i j k : Option Operand} : sepO lt (.slice t x i j k) s = True:=(rfl)
@[go_sem ↓] theorem Z2L {bb : Bool} {A : Prop} {K : V → List Ob → Prop} {d : Option Tmp} {ar : Array Operand} {ts : Array TypeId} {ty : TypeId} {p : String} {af : Array Edge} {g : Option (Nat × Bool)} {dd} : mtS bb (avB (.call { callee:=.builtin .len,args:=ar,argTypes:=ts })) A (mutO P lt { dst:=d,op:=.call { callee:=.builtin .len,args:=ar,argTypes:=ts },type:=ty,pos:=p,after:=af,guard:=g } s K) dd = A:=Q3E rfl rfl
@[go_sem ↓] theorem Z9P {v : V} : nre v .any = True:=by simp [nre]
def lcV (s : St) : List Nat → List V
 | []=>[]
 | u :: lt=>if u < 1000000 then lcV s lt else s.get (u - 1000000) :: lcV s lt
@[go_sem ↓] theorem J0q : lcV s [] = []:=(rfl)
@[go_sem ↓] theorem Y9F {u : Nat} : lcV s (u :: lt) = if u < 1000000 then lcV s lt else s.get (u - 1000000) :: lcV s lt:=(rfl)
theorem Y0L {t : Nat} : ∀ {lt : List Nat},1000000 + t ∈ lt → s.get t ∈ lcV s lt
 | u :: lt,h=>by
  rw [Y9F]
  rcases List.mem_cons.1 h with h | h
  ·rw [if_neg (by omega),show u - 1000000 = t by omega]; exact List.mem_cons_self
  ·split
   ·exact Y0L h
   ·exact List.mem_cons_of_mem _ (Y0L h)
def lcO (js : List Nat) : List V → Prop
 | []=>True
 | .ref id _ :: l=>js.elem id = false ∧ lcO js l
 | _ :: l=>lcO js l
@[go_sem ↓] theorem J0s {js : List Nat} : lcO js [] = True:=(rfl)
@[go_sem ↓] theorem J0r {js : List Nat} {id off : Nat} {l : List V} : lcO js (.ref id off :: l) = (js.elem id = false ∧ lcO js l):=(rfl)
@[go_sem ↓] theorem Z7N {n : Nat} : List.elem n [] = false:=(rfl)
@[go_sem ↓] theorem Z5E {n m : Nat} {l : List Nat} : List.elem n (m :: l) = if n = m then true else List.elem n l:=by
 rw [List.elem_cons]
 by_cases e : n = m
 ·subst e; simp
 ·rw [if_neg e,beq_eq_false_iff_ne.2 e]
theorem Y0M {js : List Nat} : ∀ {l : List V},lcO js l → ∀ v ∈ l,∀ id off,v = .ref id off → id ∉ js
 | [],_,v,hv=>by simp at hv
 | u :: l,h,v,hv=>by
  intro id off e
  rcases List.mem_cons.1 hv with rfl | hv
  ·subst e
   have h1 : js.elem id = false:=h.1
   intro hm
   rw [List.elem_eq_true_of_mem hm] at h1; cases h1
  ·have h2 : lcO js l:=by
    cases u with
    | ref _ _=>exact h.2
    | _=>exact h
   exact Y0M h2 v hv id off e
theorem mtL {b c : Bool} {A M : Prop} {d : Tr (A,M)} (h : A) (hc : (b && c) = false:=by rfl) : mtS b c A M d:=.inl ⟨hc,h⟩
theorem Y0F : ∀ {js : List Nat} {H H1 : List Ob} {i : Nat} {ob : Ob},i ∉ js → H[i]? = some ob → (putO H js H1)[i]? = some ob
 | [],H,[],i,ob,_,h=>h
 | [],H,_ :: _,i,ob,_,h=>h
 | _ :: _,H,[],i,ob,_,h=>h
 | j :: js,H,o :: H1,i,ob,hi,h=>by
  have h1 : i ≠ j:=fun e=>hi (by simp [e])
  have h2 : i ∉ js:=fun e=>hi (by simp [e])
  show (putO (H.set j o) js H1)[i]? = some ob
  exact Y0F h2 (by rw [List.getElem?_set,if_neg (fun e=>h1 e.symm)]; exact h)
theorem callGL {c : Bool} {g : FuncId} {args : List V} {r : V} {H0 H1 : List Ob} {A : Prop} {K : V → List Ob → Prop} {d : Option Tmp} {f : Operand} {l : List Operand} {ts : Array TypeId} {ty : TypeId} {p : String} {af : Array Edge} {dd} (js : List Nat) (h : GC P g args H0 r H1)
  (hf : s.ev f = .fn (.func g) [] []) (hnd : js.Nodup) (hok : hdOk s.hp js H0) (hag : AgL s.hp js (l.map s.ev) args) (hl : js.length ≤ H1.length) (hfl : ∀ ob ∈ H1,ob.st ≠ .res ∧ ∀ c ∈ ob.cs,c.flat)
  (hlt : lcO js (lcV s lt)) (hk : K (r.rn (rnI js s.hp.length)) (putO s.hp js H1 ++ tailO js H1)) :
  mtS true c A (mutO P lt { dst:=d,op:=.call { callee:=.value f,args:=l.toArray,argTypes:=ts },type:=ty,pos:=p,after:=af,guard:=none } s K) dd:=by
 refine .inr ⟨rfl,js,_,_,rfl,fun ρ' hr E a w κ S uss hs=>?_,fun i hi ob ho=>?_,fun t ht id off e=>Y0M hlt _ (Y0L ht) id off e,hk⟩
 ·have hrf : ρ' f = .fn (.func g) [] []:=by rw [hr f (by simp [Op.operands,Call.operands]),hf]
  have hrl : l.map ρ' = l.map s.ev:=List.map_congr_left fun x hx=>hr x (by simp [Op.operands,Call.operands,hx])
  obtain ⟨v,H',hK,hv⟩:=X8l (P:=P) (ρ:=ρ') (H:=s.hp) (K:=fun v H=>v = r.rn (rnI js s.hp.length) ∧ H = putO s.hp js H1 ++ tailO js H1) (o:={ dst:=d,op:=.call { callee:=.value f,args:=l.toArray,argTypes:=ts },type:=ty,pos:=p,after:=af,guard:=none }) rfl (by
   unfold callG
   rw [hrf]
   refine ⟨js,args,H0,r,H1,hnd,hok, ?_,h,hl,hfl,rfl,rfl⟩
   show AgL s.hp js ([] ++ l.map ρ' ++ []) args
   rw [hrl,List.nil_append,List.append_nil]; exact hag)
  obtain ⟨rfl,rfl⟩:=hK
  exact hv hs
 ·rw [List.getElem?_append_left]
  ·exact Y0F hi ho
  ·exact (List.getElem?_eq_some_iff.1 (Y0F (H1:=H1) hi ho)).1
theorem mutV {c : Bool} {A : Prop} {o : Oper} {K : V → List Ob → Prop} {dd} (js : List Nat) {v : V} {H' : List Ob} (hm : mvB o.op = true)
  (hs : ∀ ρ' : Operand → V,(∀ x ∈ o.op.operands,ρ' x = s.ev x) → ∀ (E : Env) (a : Act) (w : World) (κ : KM) (S : BS) (uss : List (List Nat)),Sees E s.hp ρ' a w κ S uss → VOk P E o a w κ S v H')
  (hp : ∀ i,i ∉ js → ∀ ob,s.hp[i]? = some ob → H'[i]? = some ob) (hlt : lcO js (lcV s lt)) (hk : K v H') : mtS true c A (mutO P lt o s K) dd :=
 .inr ⟨rfl,js,v,H',hm,hs,hp,fun t ht id off e=>Y0M hlt _ (Y0L ht) id off e,hk⟩
theorem mtDel {c : Bool} {A0 : Prop} {d : Option Tmp} {K : V → List Ob → Prop} {ty : TypeId} {p : String} {af : Array Edge} {x y : Operand} {t e : TypeId} {dd} {sz : Nat} {A X B : List V} {ob : Ob} (id i k : Nat)
  (ht : tsl P t = some (e,sz)) (hsp : 0 < sz) (hx : s.ev x = .rsl id sz 0 i) (hy : (k = 0 ∧ s.ev y = .sl .s sz 0 []) ∨ s.ev y = .rsl id sz (i + 1) k) (hoi : s.hp[id]? = some ob) (host : ob.st = .own)
  (hcs : ob.cs = A ++ X ++ B) (hA : A.length = i * sz) (hX : X.length = sz) (hB : B.length = k * sz) (hcell : ∀ c ∈ B,c.cell) (hlt : lcO [id] (lcV s lt))
  (hk : K (.rsl id sz 0 (i + k)) (s.hp.set id { ob with cs:=A ++ B })) :
  mtS true c A0 (mutO P lt { dst:=d,op:=.call { callee:=.builtin .append,args:=#[x,y],argTypes:=#[t,t] },type:=ty,pos:=p,after:=af,guard:=none } s K) dd:=by
 refine mutV [id] rfl (fun ρ' hr E a w κ S uss hsee=>?_) (fun j hj ob' ho=>?_) hlt hk
 ·have e1 : ρ' x = s.ev x:=hr x (by simp [Op.operands,Call.operands])
  have e2 : ρ' y = s.ev y:=hr y (by simp [Op.operands,Call.operands])
  exact Y8w rfl ht hsp (by rw [e1]; exact hx) (by rw [e2]; exact hy) hoi host hcs hA hX hB hcell hsee
 ·rw [List.getElem?_set,if_neg (fun e=>hj (by simp [e]))]; exact ho
theorem mtBsl {c : Bool} {A0 : Prop} {d : Option Tmp} {K : V → List Ob → Prop} {ty : TypeId} {p : String} {af : Array Edge} {t : TypeId} {n : Nat} {l : List (Nat × Operand)} {dd} {v : V} {H' : List Ob} (js : List Nat)
  (h : bslO P t n (l.map fun q=>(q.1,s.ev q.2)) s.hp (fun v0 H0=>v0 = v ∧ H0 = H')) (hp : ∀ i,i ∉ js → ∀ ob,s.hp[i]? = some ob → H'[i]? = some ob) (hlt : lcO js (lcV s lt)) (hk : K v H') :
  mtS true c A0 (mutO P lt { dst:=d,op:=.buildSlice t n l.toArray,type:=ty,pos:=p,after:=af,guard:=none } s K) dd:=by
 refine mutV js rfl (fun ρ' hr E a w κ S uss hsee=>?_) hp hlt hk
 have e1 : (l.map fun q=>(q.1,ρ' q.2)) = l.map fun q=>(q.1,s.ev q.2):=List.map_congr_left fun q hq=>by
  rw [hr q.2 (by simp [Op.operands]; exact ⟨_,hq⟩)]
 obtain ⟨v0,H0,⟨rfl,rfl⟩,hv⟩:=Y0c (P:=P) (ρ:=ρ') (H:=s.hp) (K:=fun v0 H0=>v0 = v ∧ H0 = H') (o:={ dst:=d,op:=.buildSlice t n l.toArray,type:=ty,pos:=p,after:=af,guard:=none }) rfl (by
  show bslO P t n (l.map fun q=>(q.1,ρ' q.2)) s.hp _
  rw [e1]; exact h)
 exact hv hsee
theorem mtApp {c : Bool} {A0 : Prop} {d : Option Tmp} {K : V → List Ob → Prop} {ty : TypeId} {p : String} {af : Array Edge} {t : TypeId} {x y : Operand} {dd} {v : V} {H' : List Ob} (js : List Nat)
  (h : appM P t (s.ev x) (s.ev y) s.hp (fun v0 H0=>v0 = v ∧ H0 = H')) (hp : ∀ i,i ∉ js → ∀ ob,s.hp[i]? = some ob → H'[i]? = some ob) (hlt : lcO js (lcV s lt)) (hk : K v H') :
  mtS true c A0 (mutO P lt { dst:=d,op:=.call { callee:=.builtin .append,args:=#[x,y],argTypes:=#[t,t] },type:=ty,pos:=p,after:=af,guard:=none } s K) dd:=by
 refine mutV js rfl (fun ρ' hr E a w κ S uss hsee=>?_) hp hlt hk
 have e1 : ρ' x = s.ev x:=hr x (by simp [Op.operands,Call.operands])
 have e2 : ρ' y = s.ev y:=hr y (by simp [Op.operands,Call.operands])
 obtain ⟨v0,H0,⟨rfl,rfl⟩,hv⟩:=Y0f (P:=P) (ρ:=ρ') (H:=s.hp) (K:=fun v0 H0=>v0 = v ∧ H0 = H') (o:={ dst:=d,op:=.call { callee:=.builtin .append,args:=#[x,y],argTypes:=#[t,t] },type:=ty,pos:=p,after:=af,guard:=none }) rfl (by
  rw [e1,e2]; exact h)
 exact hv hsee
def hkp (js : List Nat) : Nat → List Ob → List Ob → Prop
 | _,[],_=>True
 | _,_ :: _,[]=>False
 | n,a :: H,b :: H'=>(List.elem n js = true ∨ a = b) ∧ hkp js (n + 1) H H'
@[go_sem ↓] theorem J0x {js : List Nat} {n : Nat} {H : List Ob} : hkp js n [] H = True:=by cases H <;> rfl
@[go_sem ↓] theorem Z7A {js : List Nat} {n : Nat} {a : Ob} {H H' : List Ob} : hkp js n (a :: H) (a :: H') = hkp js (n + 1) H H':=by simp [hkp]
def hkE (e : Bool) (a b : Ob) (p : Prop) : Prop:=(e = true ∨ a = b) ∧ p
@[congr] theorem Z5n {e e' : Bool} {a b : Ob} {p : Prop} (h : e = e') : hkE e a b p = hkE e' a b p:=by rw [h]
@[go_sem ↓] theorem Z7C {a b : Ob} {p : Prop} : hkE true a b p = p:=by simp [hkE]
@[go_sem ↓] theorem Z5m {a b : Ob} {p : Prop} : hkE false a b p = (a = b ∧ p):=by simp [hkE]
@[go_sem] theorem Z7B {js : List Nat} {n : Nat} {a b : Ob} {H H' : List Ob} : hkp js n (a :: H) (b :: H') = hkE (List.elem n js) a b (hkp js (n + 1) H H'):=(rfl)
theorem Y4Y {js : List Nat} : ∀ {H H' : List Ob} {n : Nat},hkp js n H H' → ∀ i,i + n ∉ js → ∀ ob,H[i]? = some ob → H'[i]? = some ob
 | [],_,_,_,i,_,ob,h=>by simp at h
 | a :: H,[],_,h,_,_,_,_=>h.elim
 | a :: H,b :: H',n,h,0,hi,ob,ho=>by
  rcases h.1 with h1 | rfl
  ·exact absurd (List.mem_of_elem_eq_true h1) (by simpa using hi)
  ·exact ho
 | a :: H,b :: H',n,h,i + 1,hi,ob,ho=>by
  have:=Y4Y h.2 i (by rw [show i + (n + 1) = i + 1 + n by omega]; exact hi) ob (by simpa using ho)
  simpa using this
theorem hkp0 {js : List Nat} {H H' : List Ob} (h : hkp js 0 H H') : ∀ i,i ∉ js → ∀ ob,H[i]? = some ob → H'[i]? = some ob:=fun i hi=>Y4Y h i hi
end
end Go.Proofs.YtchlpclgkhggeaaGreat