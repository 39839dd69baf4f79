/- part of the proof -/
import Derived.Test.YtchlpclgkhggeaaGreatWFa
import Derived.Laws.CopyRow
import Derived.Lib.AppendZerosOnto
import Derived.Orders
import Derived.MapKept
namespace Go.Proofs.YtchlpclgkhggeaaGreat
open Go Go.RowKit
set_option linter.unusedVariables false
set_option linter.unusedSimpArgs false
theorem Q0j : ∀ {uss : List (List Nat)} {i j : Nat} {a b : List Nat},uss.flatten.Nodup → uss[i]? = some a → uss[j]? = some b → i ≠ j → ∀ x ∈ a,x ∉ b
 | [],i,_,_,_,_,h,_,_=>by simp at h
 | us :: uss,0,0,_,_,_,_,_,h=>(h rfl).elim
 | us :: uss,0,j + 1,a,b,hn,h1,h2,_=>by
  simp at h1 h2; subst h1
  rw [List.flatten_cons,List.nodup_append] at hn
  intro x hx hb
  exact hn.2.2 x hx x (List.mem_flatten.2 ⟨b,List.mem_of_getElem? h2,hb⟩) rfl
 | us :: uss,i + 1,0,a,b,hn,h1,h2,_=>by
  simp at h1 h2; subst h2
  rw [List.flatten_cons,List.nodup_append] at hn
  intro x hx hb
  exact hn.2.2 x hb x (List.mem_flatten.2 ⟨a,List.mem_of_getElem? h1,hx⟩) rfl
 | us :: uss,i + 1,j + 1,a,b,hn,h1,h2,hij=>by
  rw [List.flatten_cons,List.nodup_append] at hn
  exact Q0j hn.2.1 (by simpa using h1) (by simpa using h2) (by omega)
theorem Q0q : ∀ {uss : List (List Nat)} {a : List Nat},uss.flatten.Nodup → a ∈ uss → a.Nodup
 | us :: uss,a,hn,h=>by
  rw [List.flatten_cons,List.nodup_append] at hn
  rcases List.mem_cons.1 h with rfl | h
  ·exact hn.1
  ·exact Q0q hn.2.1 h
theorem Q0Z : ∀ {uss : List (List Nat)} {i : Nat} {a a' : List Nat},uss[i]? = some a → List.Sublist a' a → List.Sublist (uss.set i a').flatten uss.flatten
 | [],i,_,_,h,_=>by simp at h
 | us :: uss,0,a,a',h,hs=>by
  simp at h; subst h
  simp only [List.set_cons_zero,List.flatten_cons]
  exact hs.append (List.Sublist.refl _)
 | us :: uss,i + 1,a,a',h,hs=>by
  simp only [List.set_cons_succ,List.flatten_cons]
  exact (List.Sublist.refl _).append (Q0Z (by simpa using h) hs)
section
variable {P : Program} {E : Env} {H : List Ob} {w : World} {κ : KM} {S : BS} {uss : List (List Nat)}
theorem Mem.of_vals {S B : BS} {κ : KM} : ∀ {cs : List V} {xs : List Value} {us : List Nat} {b o : Nat},RepL w S B κ cs xs us → w.rangeAt b o xs → Mem w S B κ cs b o us
 | [],_,_,_,_,h,_=>h.2
 | c :: cs,_,_,b,o,⟨x,xs',u1,u2,h1,h2,h3,h4⟩,hr=>by
  subst h1
  refine ⟨x,u1,u2,by simpa using hr 0 x rfl,h2,h3,Mem.of_vals h4 ?_⟩
  intro j v hj
  have:=hr (j + 1) v (by simpa using hj)
  rwa [show o + (j + 1) = o + 1 + j by omega] at this
theorem Hp.get (h : Hp E H w κ S uss) {id : Nat} {ob : Ob} (hi : H[id]? = some ob) (hst : ob.st = .own ∨ ob.st = .frz) : ∃ k us,kat κ id = some k ∧ uss[id]? = some us ∧ ObR w S E.B κ ob k us:=by
 have hlt:=(List.getElem?_eq_some_iff.1 hi).1
 have l2 : id < uss.length:=by rw [h.ul]; exact hlt
 obtain ⟨k,h1⟩:=h.al id ob hi hst
 have h2 : uss[id]? = some uss[id]:=List.getElem?_eq_getElem l2
 exact ⟨k,_,h1,h2,h.ob id ob _ _ hi h1 h2⟩
theorem Hp.kill (h : Hp E H w κ S uss) (id : Nat) (ob : Ob) : Hp E (H.set id { ob with st:=.dead }) w κ S (uss.set id []) where
 kl:=by simp [h.kl]
 al i ob' h1 st:=by
  rw [List.getElem?_set] at h1
  by_cases e : id = i
  ·simp only [e,if_true] at h1
   split at h1
   ·simp only [Option.some.injEq] at h1; subst h1; rcases st with st | st <;> cases st
   ·cases h1
  ·simp only [e,if_false] at h1
   exact h.al i ob' h1 st
 ul:=by simp [h.ul]
 ob i ob' k us h1 h2 h3:=by
  rw [List.getElem?_set] at h1 h3
  by_cases e : id = i
  ·simp only [e,if_true] at h1 h3
   split at h1
   ·split at h3
    ·simp only [Option.some.injEq] at h1 h3
     subst h1; subst h3; exact rfl
    ·cases h3
   ·cases h1
  ·simp only [e,if_false] at h1 h3
   exact h.ob i ob' k us h1 h2 h3
 nd:=by
  by_cases hlt : id < uss.length
  ·exact (Q0Z (List.getElem?_eq_getElem hlt) (List.nil_sublist _)).nodup h.nd
  ·rw [List.set_eq_of_length_le (by omega)]; exact h.nd
 ow b hb:=by
  by_cases hlt : id < uss.length
  ·exact h.ow b ((Q0Z (List.getElem?_eq_getElem hlt) (List.nil_sublist _)).subset hb)
  ·rw [List.set_eq_of_length_le (by omega)] at hb; exact h.ow b hb
 sb:=h.sb
 s0:=h.s0
 s1:=h.s1
 bb:=h.bb
 kp:=h.kp
 kk:=h.kk
theorem Hp.push (h : Hp E H w κ S uss) {ob : Ob} {k : Option Nat} {us : List Nat} (h1 : ObR w S E.B (κ ++ [some k]) ob k us) (h2 : us.Nodup)
  (h3 : ∀ b ∈ us,¬ S b ∧ ¬ E.B b ∧ b < w.heap.size ∧ (E.w0.heap.size ≤ b ∨ b ∈ E.M) ∧ b ∉ uss.flatten) : Hp E (H ++ [ob]) w (κ ++ [some k]) S (uss ++ [us]):=by
 refine h.append (κ':=[some k]) (uss':=[us]) rfl ?_ rfl ?_ (by simpa using h2) (by simpa using h3)
 ·intro i ob' a st
  cases i with
  | zero=>exact ⟨k,rfl⟩
  | succ i=>simp at a
 intro i ob' k' us' a b c
 cases i with
 | zero =>
  simp only [List.getElem?_cons_zero,Option.some.injEq] at a c
  have b' : some k = some k':=b
  simp only [Option.some.injEq] at b'
  subst a; subst b'; subst c; exact h1
 | succ i=>simp at a
theorem Rep.grow {S B S' B' : BS} {κ κ' : KM} {w' : World} {cs : List V} {xs : List Value} (hb : Below w.heap.size w w') (hs : ∀ b,S b → S' b) (hB : ∀ b,B b → B' b)
  (hk : ∀ (id : Nat) (x : Option Nat),kat κ id = some x → kat κ' id = some x) (hl : ∀ b,S b ∨ B b → b < w.heap.size) (h : RepL w S B κ cs xs []) : RepL w' S' B' κ' cs xs [] :=
 RepL.ext κ κ' (Ext.of_below hb hs hB hk hl) cs xs [] (by simp) h
theorem getElem?_push {κ : KM} {k : Option Nat} : ∀ (id : Nat) (x : Option Nat),kat κ id = some x → kat (κ ++ [some k]) id = some x:=Q1R _
theorem Q1k {w : World} {b : Nat} {arr : Array Value} {ty : TypeId} {fr : Nat × Nat} (hg : w.heap[b]? = some (.cells arr ty fr)) {o : Nat} {xs : List Value} (hx : ∀ (j : Nat) (v : Value),xs[j]? = some v → arr[o + j]? = some v) : w.rangeAt b o xs:=by
 intro j v hj
 rw [cell_of_row w b (o + j) arr ty fr hg]
 exact hx j v hj
theorem Hp.made (h : Hp E H w κ S uss) {w' : World} (hb : Below w.heap.size w w') {ty : TypeId} {arr : Array Value} (hg : w'.heap[w.heap.size]? = some (.cells arr ty (0,0))) {cs : List V} {xs : List Value}
  (hr : RepL w S E.B κ cs xs []) (hx : ∀ (j : Nat) (v : Value),xs[j]? = some v → arr[j]? = some v) :
  Hp E (H ++ [⟨.own,ty,cs⟩]) w' (κ ++ [some (some w.heap.size)]) S (uss ++ [[w.heap.size]]):=by
 have hlt : w.heap.size < w'.heap.size:=(Array.getElem?_eq_some_iff.1 hg).1
 have hg':=h.grow hb (fun _ h=>h) (fun _ h=>.inl h)
 refine hg'.push (k:=some w.heap.size) (us:=[w.heap.size]) ?_ (by simp) ?_
 ·refine .inr ⟨w.heap.size,arr,[],rfl,rfl,⟨_,hg⟩, ?_⟩
  exact Mem.of_vals (Rep.grow hb (fun _ h=>h) (fun _ h=>h) getElem?_push h.bnd hr) (Q1k hg (by simpa using hx))
 ·intro b hb'
  obtain rfl : b = w.heap.size:=by simpa using hb'
  refine ⟨fun hs=>by have:=h.sb _ hs; omega,fun hB=>by have:=h.bnd _ (.inr hB); omega,hlt,.inl h.kp.size,fun hm=>by have:=(h.ow _ hm).2.2.1; omega⟩
theorem Hp.shared (h : Hp E H w κ S uss) {w' : World} (hb : Below w.heap.size w w') {ty : TypeId} {arr : Array Value} {fr : Nat × Nat} (hg : w'.heap[w.heap.size]? = some (.cells arr ty fr)) {cs : List V} {xs : List Value}
  (hr : RepL w S E.B κ cs xs []) (hc : ∀ c ∈ cs,c.cl) (hx : ∀ (j : Nat) (v : Value),xs[j]? = some v → arr[j]? = some v) :
  Hp E H w' κ (fun b=>S b ∨ b = w.heap.size) uss ∧ Mem w' (fun b=>S b ∨ b = w.heap.size) (fun _=>False) [] cs w.heap.size 0 []:=by
 have hlt : w.heap.size < w'.heap.size:=(Array.getElem?_eq_some_iff.1 hg).1
 refine ⟨h.grow hb (fun _ h=>.inl h) ?_, ?_⟩
 ·rintro b (hb | rfl)
  ·exact .inl hb
  ·exact .inr ⟨Nat.le_refl _,hlt⟩
 ·refine Mem.cl (fun _ h=>h) hc (Mem.of_vals (Rep.grow (κ':=κ) hb (fun _ h=>.inl h) (fun _ h=>h) (fun _ _ h=>h) h.bnd hr) (Q1k hg (by simpa using hx)))
theorem Hp.wrote (h : Hp E H w κ S uss) {id g : Nat} {ob : Ob} {u : List Nat} {arr arr' : Array Value} (hi : H[id]? = some ob) (hst : ob.st = .own) (hk : kat κ id = some (some g)) (hus : uss[id]? = some (g :: u))
  (hgb : Blk w g arr) (hsz : arr'.size = arr.size) {cs : List V} {xs : List Value} {u' : List Nat} (hsub : List.Sublist u' u)
  (hr : RepL w S E.B κ cs xs u') (hx : ∀ (j : Nat) (v : Value),xs[j]? = some v → arr'[j]? = some v) : Hp E (H.set id { ob with cs:=cs }) (w.setRow g arr') κ S (uss.set id (g :: u')):=by
 have hgm : g ∈ uss.flatten:=List.mem_flatten.2 ⟨_,List.mem_of_getElem? hus,by simp⟩
 obtain ⟨hgS,hgB,hglt,hgw⟩:=h.ow g hgm
 obtain ⟨tyb,hg⟩:=hgb
 have hheap : (w.setRow g arr').heap[g]? = some (.cells arr' tyb (0,0)):=setRow_heap w g arr arr' tyb (0,0) hg
 have hother : ∀ k,k ≠ g → (w.setRow g arr').heap[k]? = w.heap[k]?:=fun k hk=>setRow_other w g k arr' hk
 have hroom : ∀ b k,room w b k → room (w.setRow g arr') b k:=by
  intro b k hr
  by_cases e : b = g
  ·subst e
   obtain ⟨a1,t1,h1,h2⟩:=hr
   rw [hg] at h1
   simp only [Option.some.injEq,Obj.cells.injEq] at h1
   exact ⟨arr',tyb,hheap,by rw [hsz,h1.1]; exact h2⟩
  ·exact Q1r (hother b e) hr
 have hsz' : (w.setRow g arr').heap.size = w.heap.size:=by simp [World.setRow]
 have hext : Ext w (w.setRow g arr') S S E.B E.B κ κ:=⟨fun _ h=>h,fun _ h=>h,fun _ _ h=>h,hroom,fun b hb o=>World.cell?_of_block (w:=w) (hother b (by
  rintro rfl
  rcases hb with hb | hb
  ·exact hgS hb
  ·exact hgB hb))⟩
 have hgu : g ∉ u:=by
  intro hm
  have h1 : (g :: u).Nodup:=Q0q h.nd (List.mem_of_getElem? hus)
  simp at h1
  exact h1.1 hm
 exact {
  kl:=by simp [h.kl]
  al:=by
   intro i ob' h1 st
   rw [List.getElem?_set] at h1
   by_cases e : id = i
   ·subst e; exact ⟨_,hk⟩
   ·simp only [e,if_false] at h1
    exact h.al i ob' h1 st
  ul:=by simp [h.ul]
  ob:=by
   intro i ob' k us h1 h2 h3
   rw [List.getElem?_set] at h1 h3
   by_cases e : id = i
   ·subst e
    simp only [if_true] at h1 h3
    split at h1
    ·split at h3
     ·simp only [Option.some.injEq] at h1 h3
      subst h1; subst h3
      obtain ⟨st,ty,cs0⟩:=ob
      obtain rfl : st = .own:=hst
      rw [hk] at h2
      simp only [Option.some.injEq] at h2
      subst h2
      refine .inr ⟨g,arr',u',rfl,rfl,⟨_,hheap⟩, ?_⟩
      refine Mem.of_vals (RepL.ext κ κ hext cs xs u' ?_ hr) (Q1k hheap (by simpa using hx))
      intro b hb o
      exact World.cell?_of_block (w:=w) (hother b (by rintro rfl; exact hgu (hsub.subset hb)))
     ·cases h3
    ·cases h1
   ·simp only [e,if_false] at h1 h3
    refine (h.ob i ob' k us h1 h2 h3).ext hext ?_
    intro b hb
    refine hother b ?_
    rintro rfl
    rcases hb with hb | hb
    ·exact hgS hb
    ·exact Q0j h.nd hus h3 e b (by simp) hb
  nd:=(Q0Z hus (hsub.cons_cons g)).nodup h.nd
  ow:=by
   intro b hb
   rw [hsz']
   exact h.ow b ((Q0Z hus (hsub.cons_cons g)).subset hb)
  sb:=by intro b hb; rw [hsz']; exact h.sb b hb
  s0:=h.s0
  s1:=h.s1
  bb:=h.bb
  kk:=h.kk
  kp:=⟨h.kp.os,h.kp.tape,h.kp.output,by rw [hsz']; exact h.kp.size,fun k hk hm=>(hother k (by
   rintro rfl
   rcases hgw with hw | hw
   ·omega
   ·exact hm hw)).trans (h.kp.block k hk hm),fun b n hr=>hroom b n (h.kp.rm b n hr)⟩ }
end
def tbt (P : Program) (t : TypeId) : Option Nat:=(P.info? t).map (·.bytes)
def V.clB : V → Bool
 | .lit _ | .emp | .any | .sl .s _ _ _ | .ptr .s _=>true
 | _=>false
theorem V.clB_cl {v : V} (h : v.clB = true) : v.cl:=by
 unfold V.clB at h
 unfold V.cl
 split at h <;> first | trivial | cases h
def srcC (H : List Ob) (v : V) (sz m : Nat) (news : List V) : Prop :=
 match v with
 | .sl f sz' m' cs=>f ≠ .u ∧ sz' = sz ∧ m' = m ∧ cs = news
 | .emp=>m = 0 ∧ news = []
 | .rsl id sz' o m'=>sz' = sz ∧ m' = m ∧ ∃ ob,H[id]? = some ob ∧ (ob.st = .own ∨ ob.st = .frz) ∧ o * sz + m * sz ≤ ob.cs.length ∧ news = (ob.cs.drop (o * sz)).take (m * sz) ∧ ∀ c ∈ news,c.nu
 | _=>False
def appC (P : Program) (t : TypeId) (vs vx : V) (H : List Ob) (K : V → List Ob → Prop) : Prop :=
 ∃ e sz by' z,tsl P t = some (e,sz) ∧ 0 < sz ∧ tbt P e = some by' ∧ 0 < by' ∧ tzer P e = some z ∧ z.length = sz ∧ ∃ m news,srcC H vx sz m news ∧ (∀ c ∈ news,c.cell) ∧
  match vs with
  | .emp=>m * by' ≤ 140737488355328 ∧ K (.rsl H.length sz 0 m) (H ++ [⟨.own,e,news⟩])
  | .rsl id sz' 0 n=>sz' = sz ∧ (n + m) * by' ≤ 140737488355328 ∧ ∃ ob,H[id]? = some ob ∧ ob.st = .own ∧ ob.ty = e ∧ ob.cs.length = n * sz ∧
    K (.rsl H.length sz 0 (n + m)) (H.set id { ob with st:=.dead } ++ [⟨.own,e,ob.cs ++ news⟩])
  | _=>False
def mkC (P : Program) (t : TypeId) (l c : V) (K : TypeId → Nat → Nat → List V → Prop) : Prop :=
 ∃ e sz by' z,tsl P t = some (e,sz) ∧ tbt P e = some by' ∧ 0 < by' ∧ tzer P e = some z ∧ z.length = sz ∧ ∃ k k' n m,l = .lit (.int k n) ∧ c = .lit (.int k' m) ∧ 0 ≤ n ∧ n ≤ m ∧ by' * m ≤ 281474976710656 ∧
  K e sz n.toNat (List.replicate n.toNat z).flatten
def bslC (P : Program) (t : TypeId) (len : Nat) (parts : List (Nat × V)) (H : List Ob) (K : V → List Ob → Prop) : Prop :=
 ∃ e sz z,tsl P t = some (e,sz) ∧ tzer P e = some z ∧ z.length = sz ∧ 0 < sz ∧ len * sz ≤ 16777216 ∧
  if len = 0 then parts = [] ∧ K .emp H
  else fillV ((List.range len).map fun i=>(i * sz,sz)) parts (List.replicate len z).flatten fun cs =>
   if cs.all V.clB = true then K (.sl .s sz len cs) H else K (.rsl H.length sz 0 len) (H ++ [⟨.own,e,cs⟩])
def bslO (P : Program) (t : TypeId) (len : Nat) (parts : List (Nat × V)) (H : List Ob) (K : V → List Ob → Prop) : Prop :=
 ∃ e sz z,tsl P t = some (e,sz) ∧ tzer P e = some z ∧ z.length = sz ∧ 0 < sz ∧ len * sz ≤ 16777216 ∧
  if len = 0 then parts = [] ∧ K .emp H
  else fillV ((List.range len).map fun i=>(i * sz,sz)) parts (List.replicate len z).flatten fun cs=>K (.rsl H.length sz 0 len) (H ++ [⟨.own,e,cs⟩])
def stC (P : Program) (t : TypeId) (a x : V) (H : List Ob) (K : V → List Ob → Prop) : Prop :=
 match a with
 | .ref id off=>∃ n cs ob,tsz P t = some n ∧ x.cells = some cs ∧ cs.length = n ∧ (∀ c ∈ cs,c.cell) ∧ H[id]? = some ob ∧ ob.st = .own ∧ off + n ≤ ob.cs.length ∧
   K .any (H.set id { ob with cs:=ob.cs.take off ++ cs ++ ob.cs.drop (off + n) })
 | _=>False
def callO (P : Program) (f : V) (vs : List V) (H : List Ob) (K : V → List Ob → Prop) : Prop :=
 match f with
 | .fn (.func g) fs cs=>∃ r objs,CK P g H (fs ++ vs ++ cs) r objs ∧ (∀ ob ∈ objs,ob.st ≠ .res) ∧ K (r.sh H.length) (H ++ objs.map (Ob.sh H.length))
 | _=>False
def wpV (P : Program) (op : Op) (ρ : Operand → V) (H : List Ob) (K : V → List Ob → Prop) : Prop :=
 match op with
 | .alloc t=>∃ z,tzer P t = some z ∧ K (.ref H.length 0) (H ++ [⟨.own,t,z⟩])
 | .box t x=>∃ cs,(ρ x).cells = some cs ∧ K (.ref H.length 0) (H ++ [⟨.own,t,cs⟩])
 | .buildSlice t len parts=>bslC P t len (parts.toList.map fun p=>(p.1,ρ p.2)) H K
 | .makeSlice t l c=>mkC P t (ρ l) (ρ c) fun e sz n cs=>K (.rsl H.length sz 0 n) (H ++ [⟨.own,e,cs⟩])
 | .store t a x=>stC P t (ρ a) (ρ x) H K
 | .call { callee:=.builtin .append,args,argTypes }=>∃ x y t,args = #[x,y] ∧ argTypes = #[t,t] ∧ appC P t (ρ x) (ρ y) H K
 | .call { callee:=.value f,args,argTypes:=_ }=>callC P (ρ f) (args.toList.map ρ) H (fun v=>K v H) ∨ callO P (ρ f) (args.toList.map ρ) H K
 | op=>qC P op ρ H (fun v=>K v H)
section
variable {P : Program} {E : Env} {o : Oper} {a : Act} {w : World} {H : List Ob} {κ : KM} {S : BS} {uss : List (List Nat)} {ρ : Operand → V}
def VOk (P : Program) (E : Env) (o : Oper) (a : Act) (w : World) (κ : KM) (S : BS) (v : V) (H' : List Ob) : Prop :=
 ∀ (Kr : Act → World → Prop) (Q : Exit → Act → World → Prop),(∀ x w' κ' S' uss',Ext w w' S S' E.B E.B κ κ' → Hp E H' w' κ' S' uss' → Rep w' S' E.B κ' v x [] → Kr (a.put o.dst x) w') → o.wp P a w Kr Q
structure Sees (E : Env) (H : List Ob) (ρ : Operand → V) (a : Act) (w : World) (κ : KM) (S : BS) (uss : List (List Nat)) : Prop extends Hp E H w κ S uss where
 ev : ∀ x,Rep w S E.B κ (ρ x) (a.eval x) []
theorem VOk.val (h : Sees E H ρ a w κ S uss) {w' : World} {S' : BS} {κ' : KM} {uss' : List (List Nat)} {v : V} {x : Value} {H' : List Ob}
  (hrun : (execOp a.eval o).run P w = .ok (.value x) w') (hb : Ext w w' S S' E.B E.B κ κ') (hp : Hp E H' w' κ' S' uss') (hr : Rep w' S' E.B κ' v x []) : VOk P E o a w κ S v H':=by
 intro Kr Q hK
 unfold Oper.wp
 rw [hrun]
 exact hK _ _ _ _ _ hb hp hr
theorem VOk.quiet {K : V → Prop} (hq : qC P o.op ρ H K) : ∃ v,K v ∧ ∀ {E : Env} {a : Act} {w : World} {κ : KM} {S : BS} {uss : List (List Nat)},Sees E H ρ a w κ S uss → VOk P E o a w κ S v H:=by
 obtain ⟨v,hK,hv⟩:=Y9x hq
 refine ⟨v,hK,fun {E a w κ S uss} hc=>?_⟩
 intro Kr Q hKr
 refine hv hc.ev hc.toHp Kr Q ?_
 intro x w' S' hb hs1 hs2 hp hr
 exact hKr _ _ _ _ _ (Ext.of_below hb hs1 (fun _ h=>h) (fun _ _ h=>h) hc.bnd) hp hr
theorem Q0M (w : World) (ob : Obj) : Below w.heap.size w (w.alloc ob):=(Below.refl _ _).alloc (Nat.le_refl _) ob
theorem Q0U (h : Hp E H w κ S uss) {w' : World} (hb : Below w.heap.size w w') {k : Option Nat} : Ext w w' S S E.B E.B κ (κ ++ [some k]) :=
 Ext.of_below hb (fun _ h=>h) (fun _ h=>h) getElem?_push h.bnd
theorem VOk.new (h : Sees E H ρ a w κ S uss) {t : TypeId} {cs : List V} {arr : Array Value}
  (hrun : (execOp a.eval o).run P w = .ok (.value (.pointer (some ⟨w.heap.size,0,none⟩))) (w.alloc (.cells arr t)))
  (hr : RepL w S E.B κ cs arr.toList []) : VOk P E o a w κ S (.ref H.length 0) (H ++ [⟨.own,t,cs⟩]):=by
 have hb:=Q0M w (.cells arr t)
 have hm:=h.toHp.made hb (heap_alloc_new w _) hr (by simp)
 refine VOk.val h hrun (Q0U h.toHp hb) hm ⟨rfl,w.heap.size, ?_,rfl⟩
 rw [← h.kl]; exact Q1o κ _
end
section
variable {P : Program} {o : Oper} {w : World} {H : List Ob} {ρ : Operand → V} {K : V → List Ob → Prop}
theorem Y3X {t : TypeId} (ho : o.op = .alloc t) (hq : ∃ z,tzer P t = some z ∧ K (.ref H.length 0) (H ++ [⟨.own,t,z⟩])) : ∃ v H',K v H' ∧ ∀ {E : Env} {a : Act} {w : World} {κ : KM} {S : BS} {uss : List (List Nat)},Sees E H ρ a w κ S uss → VOk P E o a w κ S v H':=by
 obtain ⟨z,hz,hK⟩:=hq
 obtain ⟨i,v,hi,hzv,rfl⟩:=Q1f hz
 refine ⟨_,_,hK,fun {E a w κ S uss} hc=>VOk.new hc (arr:=v.cells) ?_ (Q1j S E.B κ _)⟩
 simp [execOp,ho,Instr.alloc,zeroValue,typeInfo,hi,hzv,newVar,newRow]
theorem Y8O {t : TypeId} {x : Operand} (ho : o.op = .box t x) (hq : ∃ cs,(ρ x).cells = some cs ∧ K (.ref H.length 0) (H ++ [⟨.own,t,cs⟩])) : ∃ v H',K v H' ∧ ∀ {E : Env} {a : Act} {w : World} {κ : KM} {S : BS} {uss : List (List Nat)},Sees E H ρ a w κ S uss → VOk P E o a w κ S v H':=by
 obtain ⟨cs,hcs,hK⟩:=hq
 refine ⟨_,_,hK,fun {E a w κ S uss} hc=>VOk.new hc (arr:=(a.eval x).cells) ?_ ((hc.ev x).cells hcs)⟩
 simp [execOp,ho,Instr.box,newVar,newRow]
theorem Q9R {t : TypeId} {n : Nat} (h : tbt P t = some n) : ∃ i,P.info? t = some i ∧ i.bytes = n:=by
 unfold tbt at h
 cases hi : P.info? t with
 | none=>simp [hi] at h
 | some i=>exact ⟨i,rfl,by simpa [hi] using h⟩
theorem Q2e {t : TypeId} {n : Nat} (h : tsz P t = some n) : ∃ i,P.info? t = some i ∧ i.size = n:=by
 unfold tsz at h
 cases hi : P.info? t with
 | none=>simp [hi] at h
 | some i=>exact ⟨i,rfl,by simpa [hi] using h⟩
theorem Q1Q (z : Array Value) (n : Nat) : (madeCells z (n * z.size)).toList = (List.replicate n z.toList).flatten:=by
 apply List.ext_getElem?
 intro i
 rcases Nat.eq_zero_or_pos z.size with hz | hz
 ·have : z.toList = []:=List.eq_nil_of_length_eq_zero (by simpa using hz)
  have e : (List.replicate n ([] : List Value)).flatten = []:=by simp
  rw [this,e,hz]; simp [madeCells]
 ·have key : ∀ (n i : Nat),(List.replicate n z.toList).flatten[i]? = if i < n * z.size then z[i % z.size]? else none:=by
   intro n
   induction n with
   | zero=>intro i; simp
   | succ n ih =>
    intro i
    rw [List.replicate_succ,List.flatten_cons,List.getElem?_append]
    by_cases hi : i < z.toList.length
    ·rw [if_pos hi]
     have hi' : i < z.size:=by simpa using hi
     rw [Nat.mod_eq_of_lt hi',if_pos (by rw [Nat.succ_mul]; omega)]; simp
    ·rw [if_neg hi,ih]
     have hi' : z.size ≤ i:=by simpa using hi
     simp only [Array.length_toList]
     rw [Nat.mod_eq_sub_mod hi']
     by_cases hlt : i - z.size < n * z.size
     ·rw [if_pos hlt,if_pos (by rw [Nat.succ_mul]; omega)]
     ·rw [if_neg hlt,if_neg (by rw [Nat.succ_mul]; omega)]
  rw [key]
  by_cases hi : i < n * z.size
  ·have hm : i % z.size < z.size:=Nat.mod_lt _ hz
   rw [if_pos hi]
   have hsz : i < (madeCells z (n * z.size)).size:=by rw [size_madeCells]; exact hi
   simp only [madeCells,Array.getElem?_toList]
   rw [Array.getElem?_eq_getElem (by simpa [madeCells] using hsz),Array.getElem?_eq_getElem hm]
   simp [hm]
  ·rw [if_neg hi]
   simp [madeCells]; omega
theorem Q1s {S B : BS} {κ : KM} {z : List V} {zv : List Value} (h : RepL w S B κ z zv []) : ∀ n : Nat,RepL w S B κ (List.replicate n z).flatten (List.replicate n zv).flatten []
 | 0=>⟨rfl,rfl⟩
 | n + 1=>by
  rw [List.replicate_succ,List.replicate_succ,List.flatten_cons,List.flatten_cons]
  exact h.nils (Q1s h n)
theorem Y9B {t : TypeId} {l c : Operand} (ho : o.op = .makeSlice t l c) (hq : mkC P t (ρ l) (ρ c) fun e sz n cs=>K (.rsl H.length sz 0 n) (H ++ [⟨.own,e,cs⟩])) : ∃ v H',K v H' ∧ ∀ {E : Env} {a : Act} {w : World} {κ : KM} {S : BS} {uss : List (List Nat)},Sees E H ρ a w κ S uss → VOk P E o a w κ S v H':=by
 obtain ⟨e,sz,by',z,ht,hby,hpos,hz,hzl,k,k',n,m,hl,hc,h0,hnm,hb,hK⟩:=hq
 obtain ⟨hu,hsz⟩:=Q0h ht
 obtain ⟨i,zv,hi,hzv,rfl⟩:=Q1f hz
 obtain ⟨i',hi',rfl⟩:=Q9R hby
 obtain rfl : i = i':=by rw [hi] at hi'; simpa using hi'
 obtain ⟨i'',hi'',rfl⟩:=Q2e hsz
 obtain rfl : i = i'':=by rw [hi] at hi''; simpa using hi''
 have hzs : zv.cells.size = i.size:=by simpa using hzl
 refine ⟨_,_,hK,fun {E a w κ S uss} hcn=>?_⟩
 have hlv:=hcn.ev l
 have hcv:=hcn.ev c
 rw [hl] at hlv; rw [hc] at hcv
 obtain ⟨_,hlv,_⟩:=hlv
 obtain ⟨_,hcv,_⟩:=hcv
 have hm63 : m ≤ 9223372036854775807:=by
  have : (1 : Int) * m ≤ (i.bytes : Int) * m:=Int.mul_le_mul_of_nonneg_right (by omega) (by omega)
  omega
 have hrun:=run_make (P:=P) w t e i zv hu hi hzv k k' n m h0 hnm hb hm63
 have hbl:=Q0M w (.cells (madeCells zv.cells (m.toNat * i.size)) e)
 have hml : (madeCells zv.cells (m.toNat * i.size)).toList = (List.replicate m.toNat zv.cells.toList).flatten:=by rw [← hzs]; exact Q1Q _ _
 have hrep : RepL w S E.B κ (List.replicate n.toNat (zv.cells.toList.map V.ofVal1)).flatten (List.replicate n.toNat zv.cells.toList).flatten []:=Q1s (Q1j S E.B κ _) _
 have hx : ∀ (j : Nat) (v : Value),(List.replicate n.toNat zv.cells.toList).flatten[j]? = some v → (madeCells zv.cells (m.toNat * i.size))[j]? = some v:=by
  intro j v hj
  rw [← Array.getElem?_toList,hml]
  have e1 : m.toNat = n.toNat + (m.toNat - n.toNat):=by omega
  rw [e1,← List.replicate_append_replicate,List.flatten_append,List.getElem?_append_left (List.getElem?_eq_some_iff.1 hj).1]
  exact hj
 have hm:=hcn.toHp.made hbl (heap_alloc_new w _) hrep hx
 refine VOk.val hcn (by simp only [execOp,ho]; rw [Sem.run_bind,hlv,hcv,hrun]; rfl) (Q0U hcn.toHp hbl) hm ⟨rfl,.inr ⟨w.heap.size,m.toNat, ?_, ?_,by omega,by simp only [maxLen]; omega, ?_⟩⟩
 ·rw [← hcn.kl]; exact Q1o κ _
 ·simp
 ·exact ⟨_,e,heap_alloc_new w _,by simp [size_madeCells]⟩
theorem Q5V {pl : List (Nat × Nat)} : ∀ {parts : List (Nat × V)} {z : List V} {K1 : List V → Prop},fillV pl parts z K1 → ∃ d,K1 d ∧ ∀ K2 : List V → Prop,K2 d → fillV pl parts z K2
 | [],z,K1,h=>⟨z,h,fun K2 h=>h⟩
 | (i,v) :: parts,z,K1,⟨off,sz,cs,h1,h2,h3,h4,h5⟩=>by
  obtain ⟨d,hd,h6⟩:=Q5V h5
  exact ⟨d,hd,fun K2 hk=>⟨off,sz,cs,h1,h2,h3,h4,h6 K2 hk⟩⟩
theorem Y6O {t e : TypeId} {sz len : Nat} {i : TypeInfo} {zv : Value} {ps : Array (Nat × Value)} {cells : Array Value} (hu : P.underlying t = some (.slice e)) (hi : P.info? e = some i) (hz : i.zero = some zv) (hs : i.size = sz) (hzs : zv.cells.size = sz) (hpos : 0 < sz)
  (hle : len * sz ≤ 16777216) (hlen : 0 < len) (hfill : Instr.fill (fun i=>if i < len then some (i * sz,sz) else none) (madeCells zv.cells (len * sz)) ps.toList = some cells) (hlt : ∀ p ∈ ps.toList,p.1 < len) :
  (Instr.buildSlice t len ps).run P w = .ok (.slice (some ⟨w.heap.size,0,none⟩) len len) (w.alloc (.cells cells e)):=by
 have hgt : ¬ (len * sz > 2 ^ 24):=by simpa using hle
 have hne : len * sz ≠ 0:=Nat.mul_ne_zero (by omega) (by omega)
 have hf : Instr.fill (fun i=>some (i * sz,sz)) (madeCells zv.cells (len * sz)) ps.toList = some cells:=by
  rw [← hfill]
  have gen : ∀ (l : List (Nat × Value)) (c : Array Value),(∀ p ∈ l,p.1 < len) → Instr.fill (fun i=>some (i * sz,sz)) c l = Instr.fill (fun i=>if i < len then some (i * sz,sz) else none) c l:=by
   intro l
   induction l with
   | nil=>intro c _; rfl
   | cons p l ih =>
    intro c hl
    obtain ⟨j,v⟩:=p
    have hj : j < len:=hl (j,v) (by simp)
    simp only [Instr.fill,hj,if_true]
    split
    ·rfl
    ·exact ih _ (fun p hp=>hl p (by simp [hp]))
  exact gen _ _ hlt
 have hgt' : ¬ (16777216 < len * sz):=by omega
 simp only [madeCells] at hf
 simp [Instr.buildSlice,run_underlying hu,sizeOf,typeInfo,zeroValue,hi,hs,hz,hgt',hne,hf,newRow]
theorem Y0T {len sz : Nat} : ∀ {parts : List (Nat × V)} {z : List V} {K1 : List V → Prop},fillV ((List.range len).map fun i=>(i * sz,sz)) parts z K1 → ∀ p ∈ parts,p.1 < len
 | [],_,_,_=>by simp
 | (i,v) :: parts,z,K1,⟨off,sz',cs,h1,h2,h3,h4,h5⟩=>by
  intro p hp
  rcases List.mem_cons.1 hp with rfl | hp
  ·have:=(List.getElem?_eq_some_iff.1 h1).1
   simpa using this
  ·exact Y0T h5 p hp
theorem X9Z {p1 p2 : Nat → Option (Nat × Nat)} (h : ∀ i,p1 i = p2 i) : ∀ (l : List (Nat × Value)) (c : Array Value),Instr.fill p1 c l = Instr.fill p2 c l:=by
 have : p1 = p2:=funext h
 subst this
 intro l c; rfl
theorem Y8N {t : TypeId} {len : Nat} {parts : Array (Nat × Operand)} (ho : o.op = .buildSlice t len parts)
  (hq : bslC P t len (parts.toList.map fun p=>(p.1,ρ p.2)) H K) : ∃ v H',K v H' ∧ ∀ {E : Env} {a : Act} {w : World} {κ : KM} {S : BS} {uss : List (List Nat)},Sees E H ρ a w κ S uss → VOk P E o a w κ S v H':=by
 obtain ⟨e,sz,z,ht,hz,hzl,hpos,hle,hq⟩:=hq
 obtain ⟨hu,hsz⟩:=Q0h ht
 obtain ⟨i,zv,hi,hzv,rfl⟩:=Q1f hz
 obtain ⟨i',hi',rfl⟩:=Q2e hsz
 obtain rfl : i = i':=by rw [hi] at hi'; simpa using hi'
 have hzs : zv.cells.size = i.size:=by simpa using hzl
 by_cases hlen : len = 0
 ·subst hlen
  rw [if_pos rfl] at hq
  obtain ⟨hp,hK⟩:=hq
  have hp' : parts = #[]:=by
   have : parts.toList = []:=by simpa using hp
   exact Array.toList_eq_nil_iff.1 this
  subst hp'
  refine ⟨_,_,hK,fun {E a w κ S uss} hcn=>?_⟩
  have hb:=Q0M w (.cells #[] e)
  have hrun : (execOp a.eval o).run P w = .ok (.value (.slice (some ⟨w.heap.size,0,none⟩) 0 0)) (w.alloc (.cells #[] e)):=by
   simp [execOp,ho,Instr.buildSlice,run_underlying hu,sizeOf,typeInfo,hi,Instr.fill,newRow]
   have : (Array.map (fun _=>default) (Array.range 0) : Array Value) = #[]:=by apply Array.ext'; simp
   rw [this]
  exact VOk.val (v:=.emp) hcn hrun (Ext.of_below hb (fun _ h=>h) (fun _ h=>h) (fun _ _ h=>h) hcn.bnd) (hcn.toHp.grow hb (fun _ h=>h) (fun _ h=>.inl h)) ⟨rfl,_,rfl⟩
 ·rw [if_neg hlen] at hq
  have hlt:=Y0T hq
  obtain ⟨d,hd1,hd2⟩:=Q5V hq
  obtain ⟨cs,rfl,hfill⟩:=Q6z (hd2 (fun c=>c = d) rfl)
  have main : ∀ {E : Env} {a : Act} {w : World} {κ : KM} {S : BS} {uss : List (List Nat)},Sees E H ρ a w κ S uss → ∃ xs : Array Value,RepL w S E.B κ cs xs.toList [] ∧ xs.size = len * i.size ∧ len ≤ maxLen ∧ cs.length = len * i.size ∧
    (execOp a.eval o).run P w = .ok (.value (.slice (some ⟨w.heap.size,0,none⟩) len len)) (w.alloc (.cells xs e)):=by
   intro E a w κ S uss hcn
   have hzrep : RepL w S E.B κ (List.replicate len (zv.cells.toList.map V.ofVal1)).flatten (madeCells zv.cells (len * i.size)).toList []:=by
    rw [← hzs,Q1Q]; exact Q1s (Q1j S E.B κ _) _
   obtain ⟨xs,hf,hrep⟩:=hfill (ps:=parts.toList.map fun p=>(p.1,a.eval p.2)) hzrep (by simp) (by
    intro j p hj
    rw [List.getElem?_map] at hj
    cases hq' : parts.toList[j]? with
    | none=>rw [hq'] at hj; simp at hj
    | some q =>
     rw [hq'] at hj
     obtain rfl : (q.1,ρ q.2) = p:=by simpa using hj
     exact ⟨a.eval q.2,by simp [List.getElem?_map,hq'],hcn.ev q.2⟩)
   have hf' : Instr.fill (fun j=>if j < len then some (j * i.size,i.size) else none) (madeCells zv.cells (len * i.size)) (parts.map fun (j,x)=>(j,a.eval x)).toList = some xs:=by
    rw [← hf]
    have e1 : (parts.map fun (j,x)=>(j,a.eval x)).toList = parts.toList.map fun p=>(p.1,a.eval p.2):=by simp
    rw [e1]
    refine X9Z ?_ _ _
    intro j
    by_cases hj : j < len
    ·simp [hj]
    ·simp [hj]
   have hrun:=Y6O (w:=w) hu hi hzv rfl hzs hpos hle (by omega) hf' (by
    intro p hp
    simp only [Array.toList_map,List.mem_map] at hp
    obtain ⟨q,hq1,rfl⟩:=hp
    exact hlt (q.1,ρ q.2) (List.mem_map.2 ⟨q,hq1,rfl⟩))
   have hb:=Q0M w (.cells xs e)
   have hxl : xs.size = len * i.size:=by
    have h1:=hrep.length
    have h2 : ∀ {pl : List (Nat × Nat)} {ps : List (Nat × V)} {z c : List V},fillV pl ps z (fun d=>d = c) → c.length = z.length:=by
     intro pl ps
     induction ps with
     | nil=>intro z c h; exact congrArg List.length (Eq.symm h)
     | cons p ps ih =>
      obtain ⟨j,v⟩:=p
      rintro z c ⟨off,sz,cs,g1,g2,g3,g4,g5⟩
      rw [ih g5]
      simp [g3]; omega
    have h3:=h2 (hd2 (fun c=>c = cs) rfl)
    have h4:=hzrep.length
    simp only [Array.length_toList,size_madeCells] at h1 h4
    omega
   have hex : (execOp a.eval o).run P w = .ok (.value (.slice (some ⟨w.heap.size,0,none⟩) len len)) (w.alloc (.cells xs e)):=by
    simp only [execOp,ho]; rw [Sem.run_bind,hrun]; rfl
   have hlm : len ≤ maxLen:=by
    have : len * 1 ≤ len * i.size:=Nat.mul_le_mul_left _ hpos
    simp only [maxLen]; omega
   have hcl : cs.length = len * i.size:=by have:=hrep.length; simp at this; omega
   exact ⟨xs,hrep,hxl,hlm,hcl,hex⟩
  split at hd1
  ·rename_i hcs
   refine ⟨_,_,hd1,fun {E a w κ S uss} hcn=>?_⟩
   obtain ⟨xs,hrep,hxl,hlm,hcl,hex⟩:=main hcn
   have hb:=Q0M w (.cells xs e)
   have hcc : ∀ c ∈ cs,c.cl:=fun c hc=>V.clB_cl (List.all_eq_true.1 hcs c hc)
   obtain ⟨hs1,hs2⟩:=hcn.toHp.shared hb (heap_alloc_new w _) hrep hcc (by simp)
   exact VOk.val (v:=.sl .s i.size len cs) hcn hex (Ext.of_below hb (fun _ h=>.inl h) (fun _ h=>h) (fun _ _ h=>h) hcn.bnd) hs1
    ⟨_,len,rfl,Nat.le_refl _,hlm,hcl,.inr ⟨w.heap.size,0,[],rfl,hs2,.inr rfl,rfl,rfl⟩⟩
  ·refine ⟨_,_,hd1,fun {E a w κ S uss} hcn=>?_⟩
   obtain ⟨xs,hrep,hxl,hlm,hcl,hex⟩:=main hcn
   have hb:=Q0M w (.cells xs e)
   have hm:=hcn.toHp.made hb (heap_alloc_new w _) hrep (by simp)
   refine VOk.val hcn hex (Q0U hcn.toHp hb) hm ⟨rfl,.inr ⟨w.heap.size,len, ?_, ?_,Nat.le_refl _,hlm, ?_⟩⟩
   ·rw [← hcn.kl]; exact Q1o κ _
   ·simp
   ·exact ⟨_,e,heap_alloc_new w _,by simp [hxl]⟩
theorem Y0c {t : TypeId} {len : Nat} {parts : Array (Nat × Operand)} (ho : o.op = .buildSlice t len parts)
  (hq : bslO P t len (parts.toList.map fun p=>(p.1,ρ p.2)) H K) : ∃ v H',K v H' ∧ ∀ {E : Env} {a : Act} {w : World} {κ : KM} {S : BS} {uss : List (List Nat)},Sees E H ρ a w κ S uss → VOk P E o a w κ S v H':=by
 obtain ⟨e,sz,z,ht,hz,hzl,hpos,hle,hq⟩:=hq
 obtain ⟨hu,hsz⟩:=Q0h ht
 obtain ⟨i,zv,hi,hzv,rfl⟩:=Q1f hz
 obtain ⟨i',hi',rfl⟩:=Q2e hsz
 obtain rfl : i = i':=by rw [hi] at hi'; simpa using hi'
 have hzs : zv.cells.size = i.size:=by simpa using hzl
 by_cases hlen : len = 0
 ·subst hlen
  rw [if_pos rfl] at hq
  obtain ⟨hp,hK⟩:=hq
  have hp' : parts = #[]:=by
   have : parts.toList = []:=by simpa using hp
   exact Array.toList_eq_nil_iff.1 this
  subst hp'
  refine ⟨_,_,hK,fun {E a w κ S uss} hcn=>?_⟩
  have hb:=Q0M w (.cells #[] e)
  have hrun : (execOp a.eval o).run P w = .ok (.value (.slice (some ⟨w.heap.size,0,none⟩) 0 0)) (w.alloc (.cells #[] e)):=by
   simp [execOp,ho,Instr.buildSlice,run_underlying hu,sizeOf,typeInfo,hi,Instr.fill,newRow]
   have : (Array.map (fun _=>default) (Array.range 0) : Array Value) = #[]:=by apply Array.ext'; simp
   rw [this]
  exact VOk.val (v:=.emp) hcn hrun (Ext.of_below hb (fun _ h=>h) (fun _ h=>h) (fun _ _ h=>h) hcn.bnd) (hcn.toHp.grow hb (fun _ h=>h) (fun _ h=>.inl h)) ⟨rfl,_,rfl⟩
 ·rw [if_neg hlen] at hq
  have hlt:=Y0T hq
  obtain ⟨d,hd1,hd2⟩:=Q5V hq
  obtain ⟨cs,rfl,hfill⟩:=Q6z (hd2 (fun c=>c = d) rfl)
  have main : ∀ {E : Env} {a : Act} {w : World} {κ : KM} {S : BS} {uss : List (List Nat)},Sees E H ρ a w κ S uss → ∃ xs : Array Value,RepL w S E.B κ cs xs.toList [] ∧ xs.size = len * i.size ∧ len ≤ maxLen ∧ cs.length = len * i.size ∧
    (execOp a.eval o).run P w = .ok (.value (.slice (some ⟨w.heap.size,0,none⟩) len len)) (w.alloc (.cells xs e)):=by
   intro E a w κ S uss hcn
   have hzrep : RepL w S E.B κ (List.replicate len (zv.cells.toList.map V.ofVal1)).flatten (madeCells zv.cells (len * i.size)).toList []:=by
    rw [← hzs,Q1Q]; exact Q1s (Q1j S E.B κ _) _
   obtain ⟨xs,hf,hrep⟩:=hfill (ps:=parts.toList.map fun p=>(p.1,a.eval p.2)) hzrep (by simp) (by
    intro j p hj
    rw [List.getElem?_map] at hj
    cases hq' : parts.toList[j]? with
    | none=>rw [hq'] at hj; simp at hj
    | some q =>
     rw [hq'] at hj
     obtain rfl : (q.1,ρ q.2) = p:=by simpa using hj
     exact ⟨a.eval q.2,by simp [List.getElem?_map,hq'],hcn.ev q.2⟩)
   have hf' : Instr.fill (fun j=>if j < len then some (j * i.size,i.size) else none) (madeCells zv.cells (len * i.size)) (parts.map fun (j,x)=>(j,a.eval x)).toList = some xs:=by
    rw [← hf]
    have e1 : (parts.map fun (j,x)=>(j,a.eval x)).toList = parts.toList.map fun p=>(p.1,a.eval p.2):=by simp
    rw [e1]
    refine X9Z ?_ _ _
    intro j
    by_cases hj : j < len
    ·simp [hj]
    ·simp [hj]
   have hrun:=Y6O (w:=w) hu hi hzv rfl hzs hpos hle (by omega) hf' (by
    intro p hp
    simp only [Array.toList_map,List.mem_map] at hp
    obtain ⟨q,hq1,rfl⟩:=hp
    exact hlt (q.1,ρ q.2) (List.mem_map.2 ⟨q,hq1,rfl⟩))
   have hb:=Q0M w (.cells xs e)
   have hxl : xs.size = len * i.size:=by
    have h1:=hrep.length
    have h2 : ∀ {pl : List (Nat × Nat)} {ps : List (Nat × V)} {z c : List V},fillV pl ps z (fun d=>d = c) → c.length = z.length:=by
     intro pl ps
     induction ps with
     | nil=>intro z c h; exact congrArg List.length (Eq.symm h)
     | cons p ps ih =>
      obtain ⟨j,v⟩:=p
      rintro z c ⟨off,sz,cs,g1,g2,g3,g4,g5⟩
      rw [ih g5]
      simp [g3]; omega
    have h3:=h2 (hd2 (fun c=>c = cs) rfl)
    have h4:=hzrep.length
    simp only [Array.length_toList,size_madeCells] at h1 h4
    omega
   have hex : (execOp a.eval o).run P w = .ok (.value (.slice (some ⟨w.heap.size,0,none⟩) len len)) (w.alloc (.cells xs e)):=by
    simp only [execOp,ho]; rw [Sem.run_bind,hrun]; rfl
   have hlm : len ≤ maxLen:=by
    have : len * 1 ≤ len * i.size:=Nat.mul_le_mul_left _ hpos
    simp only [maxLen]; omega
   have hcl : cs.length = len * i.size:=by have:=hrep.length; simp at this; omega
   exact ⟨xs,hrep,hxl,hlm,hcl,hex⟩
  refine ⟨_,_,hd1,fun {E a w κ S uss} hcn=>?_⟩
  obtain ⟨xs,hrep,hxl,hlm,hcl,hex⟩:=main hcn
  have hb:=Q0M w (.cells xs e)
  have hm:=hcn.toHp.made hb (heap_alloc_new w _) hrep (by simp)
  refine VOk.val hcn hex (Q0U hcn.toHp hb) hm ⟨rfl,.inr ⟨w.heap.size,len, ?_, ?_,Nat.le_refl _,hlm, ?_⟩⟩
  ·rw [← hcn.kl]; exact Q1o κ _
  ·simp
  ·exact ⟨_,e,heap_alloc_new w _,by simp [hxl]⟩
end
section
variable {P : Program} {E : Env} {o : Oper} {w : World} {H : List Ob} {ρ : Operand → V} {K : V → List Ob → Prop}
theorem Hp.own {κ : KM} {S : BS} {uss : List (List Nat)} (h : Hp E H w κ S uss) {id : Nat} {ob : Ob} (hi : H[id]? = some ob) (hst : ob.st = .own) :
  (kat κ id = some none ∧ ob.cs = [] ∧ uss[id]? = some []) ∨ ∃ b arr u,kat κ id = some (some b) ∧ uss[id]? = some (b :: u) ∧ Blk w b arr ∧ Mem w S E.B κ ob.cs b 0 u:=by
 obtain ⟨k,us,h1,h2,h3⟩:=h.get hi (.inl hst)
 obtain ⟨st,ty,cs⟩:=ob
 obtain rfl : st = .own:=hst
 rcases h3 with ⟨rfl,h4,rfl⟩ | ⟨b,arr,u,rfl,rfl,h4,h5⟩
 ·exact .inl ⟨h1,h4,h2⟩
 ·exact .inr ⟨b,arr,u,h1,h2,h4,h5⟩
theorem Mem.split3 {S B : BS} {κ : KM} {cs : List V} {b : Nat} {us : List Nat} (h : Mem w S B κ cs b 0 us) {i n : Nat} (hin : i + n ≤ cs.length) :
  ∃ u1 u2 u3,us = u1 ++ (u2 ++ u3) ∧ Mem w S B κ (cs.take i) b 0 u1 ∧ Mem w S B κ ((cs.drop i).take n) b i u2 ∧ Mem w S B κ (cs.drop (i + n)) b (i + n) u3:=by
 have h':=h
 rw [← List.take_append_drop i cs] at h'
 obtain ⟨u1,u',rfl,h1,h2⟩:=Mem.append.1 h'
 rw [List.length_take,Nat.min_eq_left (by omega),Nat.zero_add,← List.take_append_drop n (cs.drop i)] at h2
 obtain ⟨u2,u3,rfl,h3,h4⟩:=Mem.append.1 h2
 rw [List.length_take,List.length_drop,Nat.min_eq_left (by omega),List.drop_drop] at h4
 exact ⟨u1,u2,u3,rfl,h1,h3,h4⟩
theorem Y9l {t : TypeId} {x y : Operand} (ho : o.op = .store t x y) (hq : stC P t (ρ x) (ρ y) H K) : ∃ v H',K v H' ∧ ∀ {E : Env} {a : Act} {w : World} {κ : KM} {S : BS} {uss : List (List Nat)},Sees E H ρ a w κ S uss → VOk P E o a w κ S v H':=by
 unfold stC at hq
 split at hq
 ·rename_i id off hx
  obtain ⟨n,cs,ob,hn,hcs,hcl,hcc,hi,hst,hle,hK⟩:=hq
  refine ⟨_,_,hK,fun {E a w κ S uss} hcn=>?_⟩
  have hxv:=hcn.ev x
  rw [hx] at hxv
  obtain ⟨_,b,hk,hxv⟩:=hxv
  have hyv:=(hcn.ev y).cells hcs
  have hone:=RepL.cell hcc hyv
  have hyl : (a.eval y).cells.toList.length = n:=by rw [hyv.length]; exact hcl
  rcases hcn.toHp.own hi hst with ⟨h0,_⟩ | ⟨b',arr,u,hk',hus,hgb,hm⟩
  ·rw [hk] at h0; cases h0
  ·obtain rfl : b = b':=by rw [hk] at hk'; simpa using hk'
   have hg0:=hgb
   obtain ⟨tyb,hg⟩:=hg0
   have hxs:=hm.vals
   obtain ⟨xs,e1,e2,e3⟩:=hxs
   have harr : off + n ≤ arr.size:=by
    have : ∀ j,j < xs.length → j < arr.size:=by
     intro j hj
     have:=e2 j xs[j] (List.getElem?_eq_getElem hj)
     rw [Nat.zero_add,cell_of_row w b j arr tyb (0,0) hg] at this
     exact (Array.getElem?_eq_some_iff.1 this).1
    rcases Nat.eq_zero_or_pos (off + n) with h0 | h0
    ·omega
    ·have:=this (off + n - 1) (by omega); omega
   have hst':=run_storeCells_at P b off tyb (a.eval y).cells.toList 0 arr w hg (by omega) hone
   obtain ⟨i,hi',hsz⟩:=Q2e hn
   have hrun : (execOp a.eval o).run P w = .ok .skip (w.setRow b (arr.toList.take (off + 0) ++ (a.eval y).cells.toList ++ arr.toList.drop (off + 0 + (a.eval y).cells.toList.length)).toArray):=by
    have h1 : ¬ ((a.eval y).cells.size ≠ i.size):=by
     have : (a.eval y).cells.size = n:=by simpa using hyl
     omega
    simp only [execOp,ho,hxv,Instr.storeAt,Instr.sureAddr,storeVar,Sem.run_bind,Sem.run_pure,Result.andThen_ok,Q2g hn,Sem.run_ite]
    rw [if_neg (by rw [← hsz]; exact h1)]
    simp only [hst',Result.andThen_ok,Sem.run_bind,Sem.run_pure]
   obtain ⟨u1,u2,u3,rfl,m1,m2,m3⟩:=hm.split3 hle
   obtain ⟨x1,f1,f2,f3⟩:=m1.vals
   obtain ⟨x3,g1,g2,g3⟩:=m3.vals
   have hrep : RepL w S E.B κ (ob.cs.take off ++ cs ++ ob.cs.drop (off + n)) (x1 ++ (a.eval y).cells.toList ++ x3) (u1 ++ u3):=by
    refine RepL.append.2 ⟨_,x3,u1,u3,rfl,rfl, ?_,g3⟩
    exact RepL.append.2 ⟨x1,_,u1,[],rfl,by simp,f3,hyv⟩
   have hx1 : x1.length = off:=by rw [f1,List.length_take]; omega
   have hnew : ∀ (j : Nat) (v : Value),(x1 ++ (a.eval y).cells.toList ++ x3)[j]? = some v → (arr.toList.take (off + 0) ++ (a.eval y).cells.toList ++ arr.toList.drop (off + 0 + (a.eval y).cells.toList.length)).toArray[j]? = some v:=by
    intro j v hj
    have hta : (arr.toList.take off).length = off:=by simp; omega
    simp only [Nat.add_zero,List.getElem?_toArray]
    by_cases h1 : j < off
    ·rw [List.append_assoc,List.getElem?_append_left (by omega)] at hj
     rw [List.append_assoc,List.getElem?_append_left (by omega),List.getElem?_take,if_pos h1,Array.getElem?_toList]
     have:=f2 j v hj
     rwa [Nat.zero_add,cell_of_row w b j arr tyb (0,0) hg] at this
    ·by_cases h2 : j < off + n
     ·rw [List.append_assoc,List.getElem?_append_right (by omega),List.getElem?_append_left (by omega),hx1] at hj
      rw [List.append_assoc,List.getElem?_append_right (by omega),List.getElem?_append_left (by omega),hta]
      exact hj
     ·rw [List.getElem?_append_right (by simp only [List.length_append]; omega)] at hj
      rw [List.getElem?_append_right (by simp only [List.length_append]; omega),List.getElem?_drop,Array.getElem?_toList]
      have:=g2 _ v hj
      rw [cell_of_row w b _ arr tyb (0,0) hg] at this
      rw [← this]
      congr 1
      simp only [List.length_append,hta,hyl,hx1]
   have hsize : (arr.toList.take (off + 0) ++ (a.eval y).cells.toList ++ arr.toList.drop (off + 0 + (a.eval y).cells.toList.length)).toArray.size = arr.size:=by
    simp only [List.size_toArray,List.length_append,List.length_take,List.length_drop,Array.length_toList,hyl]
    omega
   have hw:=hcn.toHp.wrote hi hst hk hus hgb hsize (List.Sublist.append (List.Sublist.refl u1) (List.sublist_append_right u2 u3)) hrep hnew
   intro Kr Q hKr
   unfold Oper.wp
   rw [hrun]
   have hgm : b ∈ uss.flatten:=List.mem_flatten.2 ⟨_,List.mem_of_getElem? hus,by simp⟩
   obtain ⟨hgS,hgB,hglt,hgw⟩:=hcn.ow b hgm
   refine hKr _ _ _ _ _ ⟨fun _ h=>h,fun _ h=>h,fun _ _ h=>h, ?_, ?_⟩ hw rfl
   ·intro b' k hr
    by_cases e : b' = b
    ·subst e
     obtain ⟨a1,t1,q1,q2⟩:=hr
     rw [hg] at q1
     simp only [Option.some.injEq,Obj.cells.injEq] at q1
     exact ⟨_,tyb,setRow_heap w b' arr _ tyb (0,0) hg,by rw [hsize,q1.1]; exact q2⟩
    ·exact Q1r (setRow_other w b b' _ e) hr
   ·intro b' hb' o'
    refine World.cell?_of_block (w:=w) (setRow_other w b b' _ ?_)
    rintro rfl
    rcases hb' with hb' | hb'
    ·exact hgS hb'
    ·exact hgB hb'
 ·exact hq.elim
theorem Y3S {f : Operand} {args : Array Operand} {ts : Array TypeId} (ho : o.op = .call { callee:=.value f,args,argTypes:=ts })
  (hq : callO P (ρ f) (args.toList.map ρ) H K) : ∃ v H',K v H' ∧ ∀ {E : Env} {a : Act} {w : World} {κ : KM} {S : BS} {uss : List (List Nat)},Sees E H ρ a w κ S uss → VOk P E o a w κ S v H':=by
 unfold callO at hq
 split at hq
 ·rename_i g fs cs hf
  obtain ⟨r,objs,hck,_,hK⟩:=hq
  refine ⟨_,_,hK,fun {E a w κ S uss} hcn=>?_⟩
  intro Kr Q hKr
  have hfr:=hcn.ev f
  rw [hf] at hfr
  obtain ⟨_,ys,zs,hv,h1,h2⟩:=hfr
  have hargs:=RepL.of_map hcn.ev args.toList
  have hall:=(h1.nils hargs).nils h2
  have hcall:=hcn.toHp.callk hck hall
  have harr : (ys.toList ++ args.toList.map a.eval ++ zs.toList).toArray = ys ++ args.map a.eval ++ zs:=by
   apply Array.ext'; simp
  rw [harr] at hcall
  have hrun : (execOp a.eval o).run P w = .ok (.enter g (ys ++ args.map a.eval ++ zs)) w:=by
   have:=hck.enters (ys ++ args.map a.eval ++ zs) w
   simp only [execOp,ho,resolve,Deferred.ofValue,hv,Sem.run_bind,Sem.run_pure,Result.andThen_ok,invoke]
   exact this
  unfold Oper.wp
  rw [hrun]
  refine hcall.mono ?_
  rintro e w' ⟨x,rfl,hb,κ',S',uss',hs1,hs2,hp',hr⟩
  refine hKr _ _ _ _ _ (Ext.of_below hb hs1 (fun _ h=>h) ?_ hcn.bnd) hp' hr
  exact Q1R _
 ·exact hq.elim
end
section
variable {P : Program} {E : Env} {o : Oper} {w : World} {H : List Ob} {ρ : Operand → V} {K : V → List Ob → Prop}
theorem Hp.rename {κ : KM} {S : BS} {uss : List (List Nat)} (h : Hp E H w κ S uss) {id : Nat} {ob : Ob} {k : Option Nat} (hi : H[id]? = some ob) (hst : ob.st = .own) (hk : kat κ id = some k) :
  Hp E (H.set id { ob with st:=.dead } ++ [⟨.own,ob.ty,ob.cs⟩]) w (κ ++ [some k]) S (uss.set id [] ++ [(uss[id]?).getD []]):=by
 obtain ⟨k',us,h1,h2,h3⟩:=h.get hi (.inl hst)
 obtain rfl : k = k':=by rw [hk] at h1; simpa using h1
 have hr:=h3.ext (S':=S) (B':=E.B) (κ':=κ ++ [some k]) (w':=w) ⟨fun _ h=>h,fun _ h=>h,getElem?_push,fun _ _ h=>h,fun _ _ _=>rfl⟩ (fun _ _=>rfl)
 rw [h2,Option.getD_some]
 refine (h.kill id ob).push (k:=k) (us:=us) ?_ (Q0q h.nd (List.mem_of_getElem? h2)) ?_
 ·obtain ⟨st,ty,cs⟩:=ob
  obtain rfl : st = .own:=hst
  exact hr
 ·intro b hb
  obtain ⟨q1,q2,q3,q4⟩:=h.ow b (List.mem_flatten.2 ⟨_,List.mem_of_getElem? h2,hb⟩)
  refine ⟨q1,q2,q3,q4, ?_⟩
  intro hmem
  obtain ⟨l,hl,hbl⟩:=List.mem_flatten.1 hmem
  obtain ⟨j,hj⟩:=List.getElem?_of_mem hl
  rw [List.getElem?_set] at hj
  by_cases e : id = j
  ·subst e
   simp only [if_true] at hj
   split at hj
   ·simp only [Option.some.injEq] at hj; subst hj; simp at hbl
   ·cases hj
  ·simp only [e,if_false] at hj
   exact Q0j h.nd h2 hj e b hb hbl
theorem Hp.dead_any {H H2 : List Ob} {κ : KM} {S : BS} {uss : List (List Nat)} {id : Nat} {t : TypeId} {cs : List V} (h : Hp E (H.set id ⟨.dead,t,cs⟩ ++ H2) w κ S uss) (i0 : Nat) (cs' : List V) :
  Hp E (H.set id ⟨.dead,t,cs'⟩ ++ H2) w κ S uss where
 kl:=by rw [h.kl]; simp
 al i ob h1 st:=by
  by_cases hi : i < H.length
  ·rw [List.getElem?_append_left (by simpa using hi),List.getElem?_set] at h1
   by_cases e : id = i
   ·subst e
    rw [if_pos rfl,if_pos hi] at h1
    obtain rfl:=(Option.some.inj h1)
    rcases st with st | st <;> cases st
   ·rw [if_neg e] at h1
    exact h.al i ob (by rw [List.getElem?_append_left (by simpa using hi),List.getElem?_set,if_neg e]; exact h1) st
  ·rw [List.getElem?_append_right (by simpa using hi)] at h1
   simp only [List.length_set] at h1
   exact h.al i ob (by rw [List.getElem?_append_right (by simpa using hi)]; simpa using h1) st
 ul:=by rw [h.ul]; simp
 ob i ob k us h1 h2 h3:=by
  by_cases hi : i < H.length
  ·rw [List.getElem?_append_left (by simpa using hi),List.getElem?_set] at h1
   by_cases e : id = i
   ·subst e
    rw [if_pos rfl,if_pos hi] at h1
    obtain rfl:=(Option.some.inj h1)
    have:=h.ob id ⟨.dead,t,cs⟩ k us (by rw [List.getElem?_append_left (by simpa using hi),List.getElem?_set,if_pos rfl,if_pos hi]) h2 h3
    exact this
   ·rw [if_neg e] at h1
    exact h.ob i ob k us (by rw [List.getElem?_append_left (by simpa using hi),List.getElem?_set,if_neg e]; exact h1) h2 h3
  ·rw [List.getElem?_append_right (by simpa using hi)] at h1
   simp only [List.length_set] at h1
   exact h.ob i ob k us (by rw [List.getElem?_append_right (by simpa using hi)]; simpa using h1) h2 h3
 nd:=h.nd
 ow:=h.ow
 sb:=h.sb
 s0:=h.s0
 s1:=h.s1
 bb:=h.bb
 kp:=h.kp
 kk:=h.kk
theorem Q0T {t e : TypeId} {i : TypeInfo} (hu : P.underlying t = some (.slice e)) (hi : P.info? e = some i) (b : Option Addr) (n c : Nat) (hnc : n ≤ c) (b2 : Option Addr) (c2 : Nat) (ty : TypeId) :
  (Builtin.append_ #[t,t] ty #[.slice b n c,.slice b2 0 c2]).run P w = .ok (.slice b n c) w:=by
 cases b <;> cases b2 <;> simp [Builtin.append_,run_underlying hu,sizeOf,typeInfo,hi,Builtin.lenOf,hnc,Builtin.firstCells,loadCells,loadCellsFrom,storeCells]
theorem X4O {κ : KM} {S : BS} {uss : List (List Nat)} (hp : Hp E H w κ S uss) {v : V} {sz m : Nat} {news : List V} (h : srcC H v sz m news) {x : Value} (hx : Rep w S E.B κ v x []) :
  ∃ bo c xs,x = .slice bo m c ∧ news.length = m * sz ∧ xs.length = m * sz ∧ RepL w S E.B κ news xs [] ∧ (m = 0 ∨ ∃ b off,bo = some ⟨b,off,none⟩ ∧ w.rangeAt b off xs):=by
 unfold srcC at h
 split at h
 ·rename_i f' sz' m' cs
  obtain ⟨hf,rfl,rfl,rfl⟩:=h
  obtain ⟨bo,c,rfl,h2,h3,h4,h5⟩:=hx
  rcases h5 with ⟨rfl,_⟩ | ⟨b,off,u,rfl,h6,h7⟩
  ·have : cs = []:=List.eq_nil_of_length_eq_zero (by simpa using h4)
   subst this
   exact ⟨bo,c,[],rfl,h4,by simp,⟨rfl,rfl⟩,.inl rfl⟩
  ·obtain rfl:=h7.nil
   obtain ⟨xs,e1,e2,e3⟩:=h6.vals
   exact ⟨_,c,xs,rfl,h4,by omega,RepL.in Flb.le (fun _ _ h=>by simp at h) e3,.inr ⟨b,off,rfl,e2⟩⟩
 ·obtain ⟨rfl,rfl⟩:=h
  obtain ⟨_,bo,rfl⟩:=hx
  exact ⟨bo,0,[],rfl,by simp,by simp,⟨rfl,rfl⟩,.inl rfl⟩
 ·rename_i id sz' o' m'
  obtain ⟨rfl,rfl,ob,hi,hst,hle,rfl,hnu⟩:=h
  obtain ⟨_,hx⟩:=hx
  have hl : ((ob.cs.drop (o' * sz')).take (m' * sz')).length = m' * sz':=by rw [List.length_take,List.length_drop]; omega
  rcases hx with ⟨h1,rfl,rfl,a,rfl⟩ | ⟨b,c,h1,rfl,h3,h4,h5⟩
  ·have : (ob.cs.drop (0 * sz')).take (0 * sz') = []:=by simp
   rw [this]
   exact ⟨a,0,[],rfl,by simp,by simp,⟨rfl,rfl⟩,.inl rfl⟩
  ·rcases hp.leok.cells hi hst h1 with ⟨h0,_⟩ | ⟨b',u,hb,_,_,_,hm⟩
   ·cases h0
   ·obtain rfl : b = b':=by simpa using hb
    obtain ⟨u2,_,hm2⟩:=hm.drop (o' * sz') (by omega)
    obtain ⟨u3,_,hm3⟩:=hm2.take (m' * sz')
    rw [Nat.zero_add] at hm3
    obtain ⟨xs,e1,e2,e3⟩:=hm3.vals
    obtain rfl:=RepL.nu_us hnu e3
    exact ⟨_,c,xs,rfl,hl,by omega,e3,.inr ⟨b,_,rfl,e2⟩⟩
 ·exact h.elim
theorem Q1x {b off : Nat} {xs : List Value} (h : w.rangeAt b off xs) : ∀ (j : Nat) (v : Value),xs[j]? = some v → w.cell? ((⟨b,off,none⟩ : Addr).add j) = some v:=by
 intro j v hj; rw [Addr.mid]; exact h j v hj
theorem Q8p {t e : TypeId} {i : TypeInfo} {zv : Value} (hu : P.underlying t = some (.slice e)) (hi : P.info? e = some i) (hz : i.zero = some zv) (hzs : zv.cells.size = i.size) (hby : 0 < i.bytes)
  {bo : Option Addr} {n c : Nat} {olds : List Value} (hol : olds.length = n * i.size) (hold : n = 0 ∨ ∃ b off,bo = some ⟨b,off,none⟩ ∧ w.rangeAt b off olds) (hnil : bo = none → n = 0 ∧ c = 0)
  {b2 off2 m c2 : Nat} {news : List Value} (hnl : news.length = m * i.size) (hnew : w.rangeAt b2 off2 news) (hm : 0 < m) (hg : c < n + m) (hb : (n + m) * i.bytes ≤ 140737488355328) (ty : TypeId) :
  ∃ arr cap,(Builtin.append_ #[t,t] ty #[.slice bo n c,.slice (some ⟨b2,off2,none⟩) m c2]).run P w = .ok (.slice (some ⟨w.heap.size,0,none⟩) (n + m) cap) (w.drew.alloc (.cells arr e)) ∧
   n + m ≤ cap ∧ cap ≤ maxLen ∧ arr.size = cap * i.size ∧ ∀ (j : Nat) (v : Value),(olds ++ news)[j]? = some v → arr[j]? = some v:=by
 have h63 : n + m ≤ maxLen:=by
  have : (n + m) * 1 ≤ (n + m) * i.bytes:=Nat.mul_le_mul_left _ hby
  simp only [maxLen]; omega
 have h63' : ((n + m : Nat) : Int) ≤ 9223372036854775807:=by simp only [maxLen] at h63; omega
 have key : ∀ cap,n + m ≤ cap → (olds.toArray ++ news.toArray ++ Builtin.zeroCells zv.cells (cap - (n + m))).size = cap * i.size ∧
   ∀ (j : Nat) (v : Value),(olds ++ news)[j]? = some v → (olds.toArray ++ news.toArray ++ Builtin.zeroCells zv.cells (cap - (n + m)))[j]? = some v:=by
  intro cap hcap
  constructor
  ·simp only [Array.size_append,List.size_toArray,size_zeroCells,hzs,hol,hnl,← Nat.add_mul]
   congr 1; omega
  ·intro j v hj
   have hlt:=(List.getElem?_eq_some_iff.1 hj).1
   rw [Array.getElem?_append_left (by simpa using hlt)]
   simpa using hj
 cases bo with
 | none =>
  obtain ⟨rfl,rfl⟩:=hnil rfl
  have ho0 : olds = []:=List.eq_nil_of_length_eq_zero (by simpa using hol)
  subst ho0
  have hrun:=run_append_nil (P:=P) w t ty e i zv hu hi hz ⟨b2,off2,none⟩ m c2 news hnl (Q1x hnew) hm (by omega) (by rw [Nat.zero_add] at hb; omega)
  obtain ⟨k1,k2⟩:=key (grownCap w m 0 e) (by rw [Nat.zero_add]; exact grownCap_ge w m 0 e)
  simp only [Nat.zero_add,List.nil_append,Array.empty_append] at k1 k2 ⊢
  exact ⟨_,_,hrun,grownCap_ge w m 0 e,grownCap_le_maxLen w m 0 e (by omega),k1,k2⟩
 | some ad =>
  have holds : ∀ (j : Nat) (v : Value),olds[j]? = some v → w.cell? (ad.add j) = some v:=by
   rcases hold with rfl | ⟨b,off,h1,h2⟩
   ·have : olds = []:=List.eq_nil_of_length_eq_zero (by simpa using hol)
    subst this; intro j v hj; simp at hj
   ·obtain rfl : ad = ⟨b,off,none⟩:=by simpa using h1
    exact Q1x h2
  have hrun:=run_append_grow (P:=P) w t ty e i zv hu hi hz ad n c olds hol holds ⟨b2,off2,none⟩ m c2 news hnl (Q1x hnew) hg h63' (growslice_fits hg hb)
  obtain ⟨k1,k2⟩:=key (grownCap w (n + m) c e) (grownCap_ge w (n + m) c e)
  exact ⟨_,_,hrun,grownCap_ge w (n + m) c e,grownCap_le_maxLen w (n + m) c e h63,k1,k2⟩
theorem Q2S (w : World) (ob : Obj) : Below w.heap.size w (w.drew.alloc ob):=((Below.refl _ _).drew).alloc (Nat.le_refl _) ob
theorem X2t {t ty e tb : TypeId} {i : TypeInfo} (ht : P.underlying t = some (.slice e)) (hi : P.info? e = some i) {g n c : Nat} {cur : Array Value} (hg : w.heap[g]? = some (.cells cur tb (0,0)))
  {a : Addr} {m c2 : Nat} {news : List Value} (hl : news.length = m * i.size) (hnews : ∀ (j : Nat) (u : Value),news[j]? = some u → w.cell? (a.add j) = some u) (h1 : ∀ u ∈ news,u.oneCell' = true) (hroom : n + m ≤ c) (hfit : n * i.size + news.length ≤ cur.size) :
  (Builtin.append_ #[t,t] ty #[.slice (some ⟨g,0,none⟩) n c,.slice (some a) m c2]).run P w =
   .ok (.slice (some ⟨g,0,none⟩) (n + m) c) (w.setRow g (cur.toList.take (n * i.size) ++ news ++ cur.toList.drop (n * i.size + news.length)).toArray):=by
 have hfc:=run_firstCells_some (P:=P) w i.size m a m c2 news hl hnews
 have hst:=run_storeCells_at P g (n * i.size) tb news 0 cur w hg (by simpa using hfit) h1
 simp only [Nat.add_zero] at hst
 simp [Builtin.append_,run_underlying ht,sizeOf,typeInfo,hi,Builtin.lenOf,hroom,hfc,Addr.add_lit,hst]
theorem Y2U {x y : Operand} {t : TypeId} (ho : o.op = .call { callee:=.builtin .append,args:=#[x,y],argTypes:=#[t,t] })
  (hq : appC P t (ρ x) (ρ y) H K) : ∃ v H',K v H' ∧ ∀ {E : Env} {a : Act} {w : World} {κ : KM} {S : BS} {uss : List (List Nat)},Sees E H ρ a w κ S uss → VOk P E o a w κ S v H':=by
 obtain ⟨e,sz,by',z,ht,hsp,hby,hbp,hz,hzl,m,news,hsrc,hcell,hq⟩:=hq
 obtain ⟨hu,hsz⟩:=Q0h ht
 obtain ⟨i,zv,hi,hzv,rfl⟩:=Q1f hz
 obtain ⟨i',hi',rfl⟩:=Q9R hby
 obtain rfl : i = i':=by rw [hi] at hi'; simpa using hi'
 obtain ⟨i'',hi'',rfl⟩:=Q2e hsz
 obtain rfl : i = i'':=by rw [hi] at hi''; simpa using hi''
 have hzs : zv.cells.size = i.size:=by simpa using hzl
 split at hq
 ·rename_i hx
  obtain ⟨hb,hK⟩:=hq
  refine ⟨_,_,hK,fun {E a w κ S uss} hcn=>?_⟩
  obtain ⟨bo2,c2,xs,hyv,hnl,hxl,hrep,hwhere⟩:=X4O hcn.toHp hsrc (hcn.ev y)
  have hex : ∀ {sv : Value} {v' : Value} {w' : World},a.eval x = sv → (Builtin.append_ #[t,t] o.type #[sv,a.eval y]).run P w = .ok v' w' → (execOp a.eval o).run P w = .ok (.value v') w':=by
   intro sv v' w' hs hr
   subst hs
   simp [execOp,ho,resolve,invoke,builtin,hr]
  have hxv:=hcn.ev x
  rw [hx] at hxv
  obtain ⟨_,bo,hxv⟩:=hxv
  rcases hwhere with rfl | ⟨b2,off2,rfl,hrange⟩
  ·-- nothing appended
   have hn0 : news = []:=List.eq_nil_of_length_eq_zero (by simpa using hnl)
   subst hn0
   have hrun:=hex hxv (by rw [hyv]; exact Q0T hu hi bo 0 0 (Nat.le_refl _) bo2 c2 _)
   have hp:=hcn.toHp.push (ob:=⟨.own,e,[]⟩) (k:=none) (us:=[]) (.inl ⟨rfl,rfl,rfl⟩) (by simp) (by simp)
   refine VOk.val hcn hrun (Q0U hcn.toHp (Below.refl _ _)) hp ⟨rfl,.inl ⟨?_,rfl,rfl,bo,rfl⟩⟩
   rw [← hcn.kl]; exact Q1o κ _
  ·by_cases hm : m = 0
   ·subst hm
    have hn0 : news = []:=List.eq_nil_of_length_eq_zero (by simpa using hnl)
    subst hn0
    have hrun:=hex hxv (by rw [hyv]; exact Q0T hu hi bo 0 0 (Nat.le_refl _) _ c2 _)
    have hp:=hcn.toHp.push (ob:=⟨.own,e,[]⟩) (k:=none) (us:=[]) (.inl ⟨rfl,rfl,rfl⟩) (by simp) (by simp)
    refine VOk.val hcn hrun (Q0U hcn.toHp (Below.refl _ _)) hp ⟨rfl,.inl ⟨?_,rfl,rfl,bo,rfl⟩⟩
    rw [← hcn.kl]; exact Q1o κ _
   ·obtain ⟨arr,cap,hrun,g1,g2,g3,g4⟩:=Q8p (w:=w) (c2:=c2) hu hi hzv hzs hbp (bo:=bo) (n:=0) (c:=0) (olds:=[]) (by simp) (.inl rfl) (fun _=>⟨rfl,rfl⟩) hxl hrange (by omega) (by omega) (by simpa using hb) o.type
    have hrun':=hex hxv (by rw [hyv]; exact hrun)
    have hbl:=Q2S w (.cells arr e)
    have hmade:=hcn.toHp.made hbl (heap_alloc_new w.drew _) hrep (by simpa using g4)
    simp only [Nat.zero_add] at g1 hrun'
    refine VOk.val hcn hrun' (Q0U hcn.toHp hbl) hmade ⟨rfl,.inr ⟨w.heap.size,cap, ?_, ?_,g1,g2, ?_⟩⟩
    ·rw [← hcn.kl]; exact Q1o κ _
    ·simp
    ·exact ⟨arr,e,heap_alloc_new w.drew _,by rw [g3]; simp⟩
 ·rename_i id sz' n hx
  obtain ⟨rfl,hb,ob,hoi,host,hoty,hol,hK⟩:=hq
  refine ⟨_,_,hK,fun {E a w κ S uss} hcn=>?_⟩
  obtain ⟨bo2,c2,xs,hyv,hnl,hxl,hrep,hwhere⟩:=X4O hcn.toHp hsrc (hcn.ev y)
  have hex : ∀ {sv : Value} {v' : Value} {w' : World},a.eval x = sv → (Builtin.append_ #[t,t] o.type #[sv,a.eval y]).run P w = .ok v' w' → (execOp a.eval o).run P w = .ok (.value v') w':=by
   intro sv v' w' hs hr
   subst hs
   simp [execOp,ho,resolve,invoke,builtin,hr]
  have hxv:=hcn.ev x
  rw [hx] at hxv
  obtain ⟨_,hxv⟩:=hxv
  have hkill:=hcn.toHp.kill id ob
  have hlen : (H.set id { ob with st:=.dead }).length = H.length:=by simp
  have hlast : ∀ (k : Option Nat),kat (κ ++ [some k]) H.length = some k:=by intro k; rw [← hcn.kl]; exact Q1o κ k
  rcases hcn.toHp.own hoi host with ⟨hk0,hcs0,hus0⟩ | ⟨b,arr,u,hkb,hus,hgb,hm⟩
  ·-- the slice is of no array
   obtain ⟨rfl,⟨bo,hbo⟩⟩ : n = 0 ∧ ∃ bo,a.eval x = .slice bo 0 0:=by
    rcases hxv with ⟨_,hn,_,bo,hv⟩ | ⟨b,c,hk,_⟩
    ·exact ⟨hn,bo,by subst hn; exact hv⟩
    ·rw [hk0] at hk; cases hk
   have e1 : ob.cs ++ news = news:=by rw [hcs0]; rfl
   rw [e1,Nat.zero_add]
   rw [Nat.zero_add] at hb
   by_cases hm0 : m = 0
   ·subst hm0
    have hn0 : news = []:=List.eq_nil_of_length_eq_zero (by simpa using hnl)
    subst hn0
    have hrun:=hex hbo (by rw [hyv]; exact Q0T hu hi bo 0 0 (Nat.le_refl _) bo2 c2 _)
    have hp:=hkill.push (ob:=⟨.own,e,[]⟩) (k:=none) (us:=[]) (.inl ⟨rfl,rfl,rfl⟩) (by simp) (by simp)
    exact VOk.val hcn hrun (Q0U hcn.toHp (Below.refl _ _)) hp ⟨rfl,.inl ⟨hlast none,rfl,rfl,bo,rfl⟩⟩
   ·obtain ⟨b2,off2,rfl,hrange⟩:=hwhere.resolve_left hm0
    obtain ⟨arr,cap,hrun,g1,g2,g3,g4⟩:=Q8p (w:=w) (c2:=c2) hu hi hzv hzs hbp (bo:=bo) (n:=0) (c:=0) (olds:=[]) (by simp) (.inl rfl) (fun _=>⟨rfl,rfl⟩) hxl hrange (by omega) (by omega) (by simpa using hb) o.type
    have hrun':=hex hbo (by rw [hyv]; exact hrun)
    have hbl:=Q2S w (.cells arr e)
    have hmade:=hkill.made hbl (heap_alloc_new w.drew _) hrep (by simpa using g4)
    simp only [Nat.zero_add] at g1 hrun'
    refine VOk.val hcn hrun' (Q0U hcn.toHp hbl) hmade ⟨rfl,.inr ⟨w.heap.size,cap,hlast _,by simp,g1,g2, ?_⟩⟩
    exact ⟨arr,e,heap_alloc_new w.drew _,by rw [g3]; simp⟩
  ·have hg0:=hgb
   obtain ⟨tyb,hg⟩:=hg0
   obtain ⟨c,hc,hnc,hcm,hroom⟩ : ∃ c,a.eval x = .slice (some ⟨b,0,none⟩) n c ∧ n ≤ c ∧ c ≤ maxLen ∧ room w b (0 * i.size + c * i.size):=by
    rcases hxv with ⟨hk,_⟩ | ⟨b',c,hk,hv,h1,h2,h3⟩
    ·rw [hkb] at hk; cases hk
    ·obtain rfl : b = b':=by rw [hkb] at hk; simpa using hk
     exact ⟨c,by simpa using hv,h1,h2,h3⟩
   have harr : arr.size = c * i.size:=by
    obtain ⟨a1,t1,q1,q2⟩:=hroom
    rw [hg] at q1
    simp only [Option.some.injEq,Obj.cells.injEq] at q1
    rw [q1.1]; simpa using q2.symm
   obtain ⟨olds,f1,f2,f3⟩:=hm.vals
   have hbm : b ∈ uss.flatten:=List.mem_flatten.2 ⟨_,List.mem_of_getElem? hus,by simp⟩
   have hnd : (b :: u).Nodup:=Q0q hcn.nd (List.mem_of_getElem? hus)
   have hall : ∀ b' ∈ (b :: u),¬ S b' ∧ ¬ E.B b' ∧ b' < w.heap.size ∧ (E.w0.heap.size ≤ b' ∨ b' ∈ E.M) ∧ b' ∉ (uss.set id []).flatten:=by
    intro b' hb'
    obtain ⟨q1,q2,q3,q4⟩:=hcn.ow b' (List.mem_flatten.2 ⟨_,List.mem_of_getElem? hus,hb'⟩)
    refine ⟨q1,q2,q3,q4, ?_⟩
    intro hmem
    obtain ⟨l,hl,hbl⟩:=List.mem_flatten.1 hmem
    obtain ⟨j,hj⟩:=List.getElem?_of_mem hl
    rw [List.getElem?_set] at hj
    by_cases e : id = j
    ·subst e
     simp only [if_true] at hj
     split at hj
     ·simp only [Option.some.injEq] at hj; subst hj; simp at hbl
     ·cases hj
    ·simp only [e,if_false] at hj
     exact Q0j hcn.nd hus hj e b' hb' hbl
   by_cases hm0 : m = 0
   ·subst hm0
    have hn0 : news = []:=List.eq_nil_of_length_eq_zero (by simpa using hnl)
    subst hn0
    have hrun:=hex hc (by rw [hyv]; exact Q0T hu hi _ n c hnc bo2 c2 _)
    have hp:=hcn.toHp.rename hoi host hkb
    rw [← hoty,List.append_nil]
    exact VOk.val hcn hrun (Q0U hcn.toHp (Below.refl _ _)) hp ⟨rfl,.inr ⟨b,c,hlast _,by simp,by simpa using hnc,hcm,hroom⟩⟩
   ·obtain ⟨b2,off2,rfl,hrange⟩:=hwhere.resolve_left hm0
    have hrepall : RepL w S E.B κ (ob.cs ++ news) (olds ++ xs) u:=RepL.append.2 ⟨olds,xs,u,[],rfl,by simp,f3,hrep⟩
    have holen : olds.length = n * i.size:=by omega
    by_cases hroom' : n + m ≤ c
    ·-- in place
     have hfit : n * i.size + xs.length ≤ arr.size:=by rw [hxl,harr,← Nat.add_mul]; exact Nat.mul_le_mul_right _ hroom'
     have hone : ∀ v ∈ xs,v.oneCell' = true:=RepL.cell hcell hrep
     have hrun:=X2t (P:=P) (w:=w) (ty:=o.type) (c2:=c2) (a:=⟨b2,off2,none⟩) hu hi hg hxl (Q1x hrange) hone hroom' hfit
     have hrun':=hex hc (by rw [hyv]; exact hrun)
     have hsz' : (arr.toList.take (n * i.size) ++ xs ++ arr.toList.drop (n * i.size + xs.length)).toArray.size = arr.size:=by
      simp only [List.size_toArray,List.length_append,List.length_take,List.length_drop,Array.length_toList]
      omega
     have hcont : ∀ (j : Nat) (v : Value),(olds ++ xs)[j]? = some v → (arr.toList.take (n * i.size) ++ xs ++ arr.toList.drop (n * i.size + xs.length)).toArray[j]? = some v:=by
      intro j v hj
      have hta : (arr.toList.take (n * i.size)).length = n * i.size:=by simp; omega
      have hj':=(List.getElem?_eq_some_iff.1 hj).1
      rw [List.length_append] at hj'
      rw [List.getElem?_toArray,List.append_assoc]
      by_cases h1 : j < n * i.size
      ·rw [List.getElem?_append_left (by omega)] at hj
       rw [List.getElem?_append_left (by omega),List.getElem?_take,if_pos h1,Array.getElem?_toList]
       have:=f2 j v hj
       rwa [Nat.zero_add,cell_of_row w b j arr tyb (0,0) hg] at this
      ·rw [List.getElem?_append_right (by omega)] at hj
       rw [List.getElem?_append_right (by omega),List.getElem?_append_left (by omega),hta,← holen]
       exact hj
     have hw:=hcn.toHp.wrote hoi host hkb hus hgb hsz' (List.Sublist.refl u) hrepall hcont
     have hoi' : (H.set id { ob with cs:=ob.cs ++ news })[id]? = some { ob with cs:=ob.cs ++ news }:=by
      rw [List.getElem?_set_self (List.getElem?_eq_some_iff.1 hoi).1]
     have hp:=hw.rename hoi' host hkb
     rw [List.set_set] at hp
     have huss : uss.set id (b :: u) = uss:=by
      apply List.ext_getElem?
      intro j
      rw [List.getElem?_set]
      by_cases e : id = j
      ·subst e; rw [if_pos rfl,if_pos (List.getElem?_eq_some_iff.1 hus).1,hus]
      ·rw [if_neg e]
     have hgm:=hcn.ow b hbm
     have hext : Ext w (w.setRow b (arr.toList.take (n * i.size) ++ xs ++ arr.toList.drop (n * i.size + xs.length)).toArray) S S E.B E.B κ (κ ++ [some (some b)]):=by
      refine ⟨fun _ h=>h,fun _ h=>h,getElem?_push, ?_, ?_⟩
      ·intro b' k hr
       by_cases e : b' = b
       ·subst e
        obtain ⟨a1,t1,q1,q2⟩:=hr
        rw [hg] at q1
        simp only [Option.some.injEq,Obj.cells.injEq] at q1
        exact ⟨_,tyb,setRow_heap w b' arr _ tyb (0,0) hg,by rw [hsz',q1.1]; exact q2⟩
       ·exact Q1r (setRow_other w b b' _ e) hr
      ·intro b' hb' o'
       refine World.cell?_of_block (w:=w) (setRow_other w b b' _ ?_)
       rintro rfl
       rcases hb' with hb' | hb'
       ·exact hgm.1 hb'
       ·exact hgm.2.1 hb'
     have hp2:=hp.dead_any id ob.cs
     rw [← hoty] at hK ⊢
     refine VOk.val hcn hrun' hext hp2 ⟨rfl,.inr ⟨b,c,hlast _,by simp,hroom',hcm,hext.r _ _ hroom⟩⟩
    ·obtain ⟨arr',cap,hrun,g1,g2,g3,g4⟩:=Q8p (w:=w) (c2:=c2) hu hi hzv hzs hbp (bo:=some ⟨b,0,none⟩) (n:=n) (c:=c) (olds:=olds) holen (.inr ⟨b,0,rfl,f2⟩) (by intro h; cases h) hxl hrange (by omega) (by omega) hb o.type
     have hrun':=hex hc (by rw [hyv]; exact hrun)
     have hbl:=Q2S w (.cells arr' e)
     have hlt : w.heap.size < (w.drew.alloc (.cells arr' e)).heap.size:=(Array.getElem?_eq_some_iff.1 (heap_alloc_new w.drew (.cells arr' e))).1
     have hp:=(hkill.grow hbl (fun _ h=>h) (fun _ h=>.inl h)).push (ob:=⟨.own,e,ob.cs ++ news⟩) (k:=some w.heap.size) (us:=w.heap.size :: u)
      (.inr ⟨w.heap.size,arr',u,rfl,rfl,⟨_,heap_alloc_new w.drew _⟩,by
       refine Mem.of_vals (RepL.ext κ _ (Ext.of_below hbl (fun _ h=>h) (fun _ h=>h) getElem?_push hcn.bnd) _ _ _ ?_ hrepall) (Q1k (heap_alloc_new w.drew _) (by simpa using g4))
       intro b' hb' o'
       exact hbl.cell (p:=⟨b',o',none⟩) ((hall b' (by simp [hb'])).2.2.1)⟩)
      (by
       have h1:=hnd
       simp only [List.nodup_cons] at h1 ⊢
       exact ⟨fun hm'=>by have:=(hall w.heap.size (by simp [hm'])).2.2.1; omega,h1.2⟩)
      (by
       intro b' hb'
       rcases List.mem_cons.1 hb' with rfl | hb'
       ·refine ⟨fun hs=>by have:=hcn.sb _ hs; omega,fun hB=>by have:=hcn.bnd _ (.inr hB); omega,hlt,.inl hcn.kp.size,fun hm'=>by have:=(hkill.ow _ hm').2.2.1; omega⟩
       ·obtain ⟨q1,q2,q3,q4,q5⟩:=hall b' (by simp [hb'])
        exact ⟨q1,q2,by omega,q4,q5⟩)
     refine VOk.val hcn hrun' (Q0U hcn.toHp hbl) hp ⟨rfl,.inr ⟨w.heap.size,cap,hlast _,by simp,g1,g2, ?_⟩⟩
     exact ⟨arr',e,heap_alloc_new w.drew _,by rw [g3]; simp⟩
 ·exact hq.elim
end
def mvC (P : Program) (t : TypeId) (id sz' n id2 sz2 m : Nat) (H : List Ob) (K : V → List Ob → Prop) : Prop :=
 ∃ e sz by' z,tsl P t = some (e,sz) ∧ 0 < sz ∧ tbt P e = some by' ∧ 0 < by' ∧ tzer P e = some z ∧ z.length = sz ∧ sz' = sz ∧ sz2 = sz ∧ id ≠ id2 ∧ (n + m) * by' ≤ 140737488355328 ∧
  ∃ ob2,H[id2]? = some ob2 ∧ ob2.st = .own ∧ ob2.cs.length = m * sz ∧ (∀ c ∈ ob2.cs,c.cell) ∧ ∃ ob,H[id]? = some ob ∧ ob.st = .own ∧ ob.ty = e ∧ ob.cs.length = n * sz ∧
   K (.rsl H.length sz 0 (n + m)) ((H.set id { ob with st:=.dead }).set id2 { ob2 with st:=.dead } ++ [⟨.own,e,ob.cs ++ ob2.cs⟩])
def appM (P : Program) (t : TypeId) (vs vx : V) (H : List Ob) (K : V → List Ob → Prop) : Prop :=
 match vs,vx with
 | .rsl id sz' 0 n,.rsl id2 sz2 0 m=>mvC P t id sz' n id2 sz2 m H K
 | vs,vx=>appC P t vs vx H K
section
variable {P : Program} {E : Env} {o : Oper} {w : World} {H : List Ob} {ρ : Operand → V} {K : V → List Ob → Prop} {κ : KM} {S : BS} {uss : List (List Nat)}
theorem Hp.poke (h : Hp E H w κ S uss) {g : Nat} {arr arr' : Array Value} (hgm : g ∉ uss.flatten) (hgS : ¬ S g) (hgB : ¬ E.B g) (hgw : E.w0.heap.size ≤ g ∨ g ∈ E.M)
  (hgb : Blk w g arr) (hsz : arr'.size = arr.size) : Hp E H (w.setRow g arr') κ S uss:=by
 obtain ⟨tyb,hg⟩:=hgb
 have hheap : (w.setRow g arr').heap[g]? = some (.cells arr' tyb (0,0)):=setRow_heap w g arr arr' tyb (0,0) hg
 have hother : ∀ k,k ≠ g → (w.setRow g arr').heap[k]? = w.heap[k]?:=fun k hk=>setRow_other w g k arr' hk
 have hroom : ∀ b k,room w b k → room (w.setRow g arr') b k:=by
  intro b k hr
  by_cases e : b = g
  ·subst e
   obtain ⟨a1,t1,h1,h2⟩:=hr
   rw [hg] at h1
   simp only [Option.some.injEq,Obj.cells.injEq] at h1
   exact ⟨arr',tyb,hheap,by rw [hsz,h1.1]; exact h2⟩
  ·exact Q1r (hother b e) hr
 have hsz' : (w.setRow g arr').heap.size = w.heap.size:=by simp [World.setRow]
 have hext : Ext w (w.setRow g arr') S S E.B E.B κ κ:=⟨fun _ h=>h,fun _ h=>h,fun _ _ h=>h,hroom,fun b hb o=>World.cell?_of_block (w:=w) (hother b (by
  rintro rfl
  rcases hb with hb | hb
  ·exact hgS hb
  ·exact hgB hb))⟩
 exact {
  kl:=h.kl
  al:=h.al
  ul:=h.ul
  ob:=by
   intro i ob k us h1 h2 h3
   refine (h.ob i ob k us h1 h2 h3).ext hext ?_
   intro b hb
   refine hother b ?_
   rintro rfl
   rcases hb with hb | hb
   ·exact hgS hb
   ·exact hgm (List.mem_flatten.2 ⟨_,List.mem_of_getElem? h3,hb⟩)
  nd:=h.nd
  ow:=by intro b hb; rw [hsz']; exact h.ow b hb
  sb:=by intro b hb; rw [hsz']; exact h.sb b hb
  s0:=h.s0
  s1:=h.s1
  bb:=h.bb
  kk:=h.kk
  kp:=⟨h.kp.os,h.kp.tape,h.kp.output,by rw [hsz']; exact h.kp.size,fun k hk hm=>(hother k (by
   rintro rfl
   rcases hgw with hw | hw
   ·omega
   ·exact hm hw)).trans (h.kp.block k hk hm),fun b n hr=>hroom b n (h.kp.rm b n hr)⟩ }
theorem Hp.loose (h : Hp E H w κ S uss) {i id id2 : Nat} (hi : i = id ∨ i = id2) {l : List Nat} (hl : uss[i]? = some l) :
  ∀ b ∈ l,¬ S b ∧ ¬ E.B b ∧ b < w.heap.size ∧ (E.w0.heap.size ≤ b ∨ b ∈ E.M) ∧ b ∉ ((uss.set id []).set id2 []).flatten:=by
 intro b hb
 obtain ⟨q1,q2,q3,q4⟩:=h.ow b (List.mem_flatten.2 ⟨_,List.mem_of_getElem? hl,hb⟩)
 refine ⟨q1,q2,q3,q4, ?_⟩
 intro hmem
 obtain ⟨l',hl',hbl⟩:=List.mem_flatten.1 hmem
 obtain ⟨j,hj⟩:=List.getElem?_of_mem hl'
 rw [List.getElem?_set] at hj
 by_cases e : id2 = j
 ·subst e
  simp only [if_true] at hj
  split at hj
  ·simp only [Option.some.injEq] at hj; subst hj; simp at hbl
  ·cases hj
 ·simp only [e,if_false] at hj
  rw [List.getElem?_set] at hj
  by_cases e' : id = j
  ·subst e'
   simp only [if_true] at hj
   split at hj
   ·simp only [Option.some.injEq] at hj; subst hj; simp at hbl
   ·cases hj
  ·simp only [e',if_false] at hj
   exact Q0j h.nd hl hj (by rcases hi with rfl | rfl <;> assumption) b hb hbl
theorem Y9A {x y : Operand} {t : TypeId} {id sz' n id2 sz2 m : Nat} (ho : o.op = .call { callee:=.builtin .append,args:=#[x,y],argTypes:=#[t,t] })
  (hx : ρ x = .rsl id sz' 0 n) (hy : ρ y = .rsl id2 sz2 0 m) (hq : mvC P t id sz' n id2 sz2 m H K) :
  ∃ v H',K v H' ∧ ∀ {E : Env} {a : Act} {w : World} {κ : KM} {S : BS} {uss : List (List Nat)},Sees E H ρ a w κ S uss → VOk P E o a w κ S v H':=by
 obtain ⟨e,sz,by',z,ht,hsp,hby,hbp,hz,hzl,rfl,rfl,hne,hb,ob2,hoi2,host2,hol2,hcell,ob,hoi,host,hoty,hol,hK⟩:=hq
 obtain ⟨hu,hsz⟩:=Q0h ht
 obtain ⟨i,zv,hi,hzv,rfl⟩:=Q1f hz
 obtain ⟨i',hi',rfl⟩:=Q9R hby
 obtain rfl : i = i':=by rw [hi] at hi'; simpa using hi'
 obtain ⟨i'',hi'',e2⟩:=Q2e hsz
 obtain rfl : i = i'':=by rw [hi] at hi''; simpa using hi''
 subst e2
 have hzs : zv.cells.size = i.size:=by simpa using hzl
 refine ⟨_,_,hK,fun {E a w κ S uss} hcn=>?_⟩
 have hex : ∀ {sv : Value} {v' : Value} {w' : World},a.eval x = sv → (Builtin.append_ #[t,t] o.type #[sv,a.eval y]).run P w = .ok v' w' → (execOp a.eval o).run P w = .ok (.value v') w':=by
  intro sv v' w' hs hr
  subst hs
  simp [execOp,ho,resolve,invoke,builtin,hr]
 have hxv:=hcn.ev x
 rw [hx] at hxv
 obtain ⟨_,hxv⟩:=hxv
 have hyv:=hcn.ev y
 rw [hy] at hyv
 obtain ⟨_,hyv⟩:=hyv
 have hkill:=(hcn.toHp.kill id ob).kill id2 ob2
 have hlast : ∀ (k : Option Nat),kat (κ ++ [some k]) H.length = some k:=by intro k; rw [← hcn.kl]; exact Q1o κ k
 -- the source
 obtain ⟨bo2,c2,xs,us2,hyv,hxl,hrep,hnd2,hsub2,hwhere⟩ : ∃ bo2 c2 xs us2,a.eval y = .slice bo2 m c2 ∧ xs.length = m * i.size ∧ RepL w S E.B κ ob2.cs xs us2 ∧ us2.Nodup ∧
   (∀ b ∈ us2,∃ l,uss[id2]? = some l ∧ b ∈ l) ∧ (m = 0 ∨ ∃ b off,bo2 = some ⟨b,off,none⟩ ∧ w.rangeAt b off xs):=by
  rcases hcn.toHp.own hoi2 host2 with ⟨hk0,hcs0,hus0⟩ | ⟨b,arr,u,hkb,hus,hgb,hm⟩
  ·rcases hyv with ⟨_,hn,_,bo,hv⟩ | ⟨b,c,hk,_⟩
   ·subst hn
    exact ⟨bo,0,[],[],hv,by simp,by rw [hcs0]; exact ⟨rfl,rfl⟩,by simp,by simp,.inl rfl⟩
   ·rw [hk0] at hk; cases hk
  ·rcases hyv with ⟨hk,_⟩ | ⟨b',c,hk,hv,h1,h2,h3⟩
   ·rw [hkb] at hk; cases hk
   ·obtain rfl : b = b':=by rw [hkb] at hk; simpa using hk
    obtain ⟨xs,f1,f2,f3⟩:=hm.vals
    have hnd : (b :: u).Nodup:=Q0q hcn.nd (List.mem_of_getElem? hus)
    exact ⟨_,c,xs,u,hv,by omega,f3,(List.nodup_cons.1 hnd).2,fun x hx=>⟨_,hus,by simp [hx]⟩,.inr ⟨b,0 * i.size,rfl,by rw [Nat.zero_mul]; exact f2⟩⟩
 -- the slice that grows
 obtain ⟨bo,c,olds,us1,hc,hnc,holen,f3,hnd1,hold,hnil,hdst⟩ : ∃ bo c olds us1,a.eval x = .slice bo n c ∧ n ≤ c ∧ olds.length = n * i.size ∧ RepL w S E.B κ ob.cs olds us1 ∧ us1.Nodup ∧
   (n = 0 ∨ ∃ b off,bo = some ⟨b,off,none⟩ ∧ w.rangeAt b off olds) ∧ (bo = none → n = 0 ∧ c = 0) ∧
   ((kat κ id = some none ∧ c = 0 ∧ ob.cs = [] ∧ us1 = [] ∧ olds = []) ∨ ∃ b arr,bo = some ⟨b,0,none⟩ ∧ kat κ id = some (some b) ∧ uss[id]? = some (b :: us1) ∧ Blk w b arr ∧ arr.size = c * i.size ∧ c ≤ maxLen ∧ room w b (0 * i.size + c * i.size) ∧ w.rangeAt b 0 olds):=by
  rcases hcn.toHp.own hoi host with ⟨hk0,hcs0,hus0⟩ | ⟨b,arr,u,hkb,hus,hgb,hm⟩
  ·rcases hxv with ⟨_,hn,_,bo,hv⟩ | ⟨b,c,hk,_⟩
   ·subst hn
    exact ⟨bo,0,[],[],hv,Nat.le_refl _,by simp,by rw [hcs0]; exact ⟨rfl,rfl⟩,by simp,.inl rfl,fun _=>⟨rfl,rfl⟩,.inl ⟨hk0,rfl,hcs0,rfl,rfl⟩⟩
   ·rw [hk0] at hk; cases hk
  ·rcases hxv with ⟨hk,_⟩ | ⟨b',c,hk,hv,h1,h2,h3⟩
   ·rw [hkb] at hk; cases hk
   ·obtain rfl : b = b':=by rw [hkb] at hk; simpa using hk
    obtain ⟨olds,f1,f2,f3⟩:=hm.vals
    have hnd : (b :: u).Nodup:=Q0q hcn.nd (List.mem_of_getElem? hus)
    have harr : arr.size = c * i.size:=by
     obtain ⟨tyb,hg⟩:=hgb
     obtain ⟨a1,t1,q1,q2⟩:=h3
     rw [hg] at q1
     simp only [Option.some.injEq,Obj.cells.injEq] at q1
     rw [q1.1]; simpa using q2.symm
    exact ⟨_,c,olds,u,by simpa using hv,h1,by omega,f3,(List.nodup_cons.1 hnd).2,.inr ⟨b,0,rfl,f2⟩,by (intro h; cases h),.inr ⟨b,arr,rfl,hkb,hus,hgb,harr,h2,h3,f2⟩⟩
 have hsub1 : ∀ b ∈ us1,∃ l,uss[id]? = some l ∧ b ∈ l:=by
  intro x hx
  rcases hdst with ⟨_,_,_,rfl,_⟩ | ⟨b,arr,_,_,hus,_⟩
  ·cases hx
  ·exact ⟨_,hus,by simp [hx]⟩
 have hall : ∀ x ∈ us1 ++ us2,¬ S x ∧ ¬ E.B x ∧ x < w.heap.size ∧ (E.w0.heap.size ≤ x ∨ x ∈ E.M) ∧ x ∉ ((uss.set id []).set id2 []).flatten:=by
  intro x hx
  rcases List.mem_append.1 hx with hx | hx
  ·obtain ⟨l,h1,h2⟩:=hsub1 x hx
   exact hcn.toHp.loose (.inl rfl) h1 x h2
  ·obtain ⟨l,h1,h2⟩:=hsub2 x hx
   exact hcn.toHp.loose (.inr rfl) h1 x h2
 have hnd12 : (us1 ++ us2).Nodup:=by
  refine List.nodup_append.2 ⟨hnd1,hnd2, ?_⟩
  intro p hp q hq e
  subst e
  obtain ⟨l,h1,h2⟩:=hsub1 p hp
  obtain ⟨l',h1',h2'⟩:=hsub2 p hq
  exact Q0j hcn.nd h1 h1' hne p h2 h2'
 have hrepall : RepL w S E.B κ (ob.cs ++ ob2.cs) (olds ++ xs) (us1 ++ us2):=RepL.append.2 ⟨olds,xs,us1,us2,rfl,rfl,f3,hrep⟩
 have hlen2 : ((H.set id { ob with st:=.dead }).set id2 { ob2 with st:=.dead }).length = H.length:=by simp
 by_cases hm0 : m = 0
 ·-- nothing is appended
  subst hm0
  have hn0 : ob2.cs = []:=List.eq_nil_of_length_eq_zero (by simpa using hol2)
  have hx0 : xs = []:=List.eq_nil_of_length_eq_zero (by simpa using hxl)
  have hu0 : us2 = []:=by rw [hn0] at hrep; exact hrep.2
  have hrun:=hex hc (by rw [hyv]; exact Q0T hu hi bo n c hnc bo2 c2 _)
  rw [hn0,List.append_nil,Nat.add_zero]
  rcases hdst with ⟨hk0,rfl,hcs0,rfl,rfl⟩ | ⟨b,arr,rfl,hkb,hus,hgb,harr,hcm,hroom,f2⟩
  ·obtain rfl : n = 0:=by omega
   have hp:=hkill.push (ob:=⟨.own,e,ob.cs⟩) (k:=none) (us:=[]) (.inl ⟨rfl,hcs0,rfl⟩) (by simp) (by simp)
   rw [hn0] at hp
   exact VOk.val hcn hrun (Q0U hcn.toHp (Below.refl _ _)) hp ⟨rfl,.inl ⟨hlast none,rfl,rfl,bo,rfl⟩⟩
  ·have hnd : (b :: us1).Nodup:=Q0q hcn.nd (List.mem_of_getElem? hus)
   have hp:=hkill.push (ob:=⟨.own,e,ob.cs⟩) (k:=some b) (us:=b :: us1) (.inr ⟨b,arr,us1,rfl,rfl,hgb,
    Mem.of_vals (RepL.ext κ _ ⟨fun _ h=>h,fun _ h=>h,getElem?_push,fun _ _ h=>h,fun _ _ _=>rfl⟩ _ _ _ (fun _ _ _=>rfl) f3) f2⟩) hnd (fun x hx=>hcn.toHp.loose (.inl rfl) hus x hx)
   rw [hn0] at hp
   exact VOk.val hcn hrun (Q0U hcn.toHp (Below.refl _ _)) hp ⟨rfl,.inr ⟨b,c,hlast _,by simp,hnc,hcm,hroom⟩⟩
 ·obtain ⟨b2,off2,rfl,hrange⟩:=hwhere.resolve_left hm0
  by_cases hroom' : n + m ≤ c
  ·-- in place
   rcases hdst with ⟨_,rfl,_⟩ | ⟨b,arr,rfl,hkb,hus,hgb,harr,hcm,hroom,f2⟩
   ·omega
   have hgb':=hgb
   obtain ⟨tyb,hg⟩:=hgb'
   have hnd : (b :: us1).Nodup:=Q0q hcn.nd (List.mem_of_getElem? hus)
   have hgm:=hcn.toHp.loose (id:=id) (id2:=id2) (.inl rfl) hus b (by simp)
   have hb2 : b ∉ us2:=by
    intro hm'
    obtain ⟨l',h1',h2'⟩:=hsub2 b hm'
    exact Q0j hcn.nd hus h1' hne b (by simp) h2'
   have hfit : n * i.size + xs.length ≤ arr.size:=by rw [hxl,harr,← Nat.add_mul]; exact Nat.mul_le_mul_right _ hroom'
   have hone : ∀ v ∈ xs,v.oneCell' = true:=RepL.cell hcell hrep
   have hrun:=X2t (P:=P) (w:=w) (ty:=o.type) (c2:=c2) (a:=⟨b2,off2,none⟩) hu hi hg hxl (Q1x hrange) hone hroom' hfit
   have hrun':=hex hc (by rw [hyv]; exact hrun)
   have hsz' : (arr.toList.take (n * i.size) ++ xs ++ arr.toList.drop (n * i.size + xs.length)).toArray.size = arr.size:=by
    simp only [List.size_toArray,List.length_append,List.length_take,List.length_drop,Array.length_toList]
    omega
   have hcont : ∀ (j : Nat) (v : Value),(olds ++ xs)[j]? = some v → (arr.toList.take (n * i.size) ++ xs ++ arr.toList.drop (n * i.size + xs.length)).toArray[j]? = some v:=by
    intro j v hj
    have hta : (arr.toList.take (n * i.size)).length = n * i.size:=by simp; omega
    have hj':=(List.getElem?_eq_some_iff.1 hj).1
    rw [List.length_append] at hj'
    rw [List.getElem?_toArray,List.append_assoc]
    by_cases h1 : j < n * i.size
    ·rw [List.getElem?_append_left (by omega)] at hj
     rw [List.getElem?_append_left (by omega),List.getElem?_take,if_pos h1,Array.getElem?_toList]
     have:=f2 j v hj
     rwa [Nat.zero_add,cell_of_row w b j arr tyb (0,0) hg] at this
    ·rw [List.getElem?_append_right (by omega)] at hj
     rw [List.getElem?_append_right (by omega),List.getElem?_append_left (by omega),hta,← holen]
     exact hj
   generalize hA : (arr.toList.take (n * i.size) ++ xs ++ arr.toList.drop (n * i.size + xs.length)).toArray = arr' at *
   have hext : Ext w (w.setRow b arr') S S E.B E.B κ (κ ++ [some (some b)]):=by
    refine ⟨fun _ h=>h,fun _ h=>h,getElem?_push, ?_, ?_⟩
    ·intro b' k hr
     by_cases e : b' = b
     ·subst e
      obtain ⟨a1,t1,q1,q2⟩:=hr
      rw [hg] at q1
      simp only [Option.some.injEq,Obj.cells.injEq] at q1
      exact ⟨_,tyb,setRow_heap w b' arr _ tyb (0,0) hg,by rw [hsz',q1.1]; exact q2⟩
     ·exact Q1r (setRow_other w b b' _ e) hr
    ·intro b' hb' o'
     refine World.cell?_of_block (w:=w) (setRow_other w b b' _ ?_)
     rintro rfl
     rcases hb' with hb' | hb'
     ·exact hgm.1 hb'
     ·exact hgm.2.1 hb'
   have hpk:=hkill.poke (arr':=arr') hgm.2.2.2.2 hgm.1 hgm.2.1 hgm.2.2.2.1 hgb hsz'
   have hwsz : (w.setRow b arr').heap.size = w.heap.size:=by simp [World.setRow]
   have hbn : b ∉ us1 ++ us2:=by
    intro hm'
    rcases List.mem_append.1 hm' with hm' | hm'
    ·exact (List.nodup_cons.1 hnd).1 hm'
    ·exact hb2 hm'
   have hp:=hpk.push (ob:=⟨.own,e,ob.cs ++ ob2.cs⟩) (k:=some b) (us:=b :: (us1 ++ us2))
    (.inr ⟨b,arr',us1 ++ us2,rfl,rfl,⟨tyb,setRow_heap w b arr arr' tyb (0,0) hg⟩,by
     refine Mem.of_vals (RepL.ext κ _ hext _ _ _ ?_ hrepall) (Q1k (setRow_heap w b arr arr' tyb (0,0) hg) (by simpa using hcont))
     intro b' hb' o'
     exact World.cell?_of_block (w:=w) (setRow_other w b b' _ (by rintro rfl; exact hbn hb'))⟩)
    (List.nodup_cons.2 ⟨hbn,hnd12⟩)
    (by
     intro x hx
     rw [hwsz]
     rcases List.mem_cons.1 hx with rfl | hx
     ·exact hgm
     ·exact hall x hx)
   exact VOk.val hcn hrun' hext hp ⟨rfl,.inr ⟨b,c,hlast _,by simp,hroom',hcm,hext.r _ _ hroom⟩⟩
  ·-- in a new block
   obtain ⟨arr',cap,hrun,g1,g2,g3,g4⟩:=Q8p (w:=w) (c2:=c2) hu hi hzv hzs hbp (bo:=bo) (n:=n) (c:=c) (olds:=olds) holen hold hnil hxl hrange (by omega) (by omega) hb o.type
   have hrun':=hex hc (by rw [hyv]; exact hrun)
   have hbl:=Q2S w (.cells arr' e)
   have hlt : w.heap.size < (w.drew.alloc (.cells arr' e)).heap.size:=(Array.getElem?_eq_some_iff.1 (heap_alloc_new w.drew (.cells arr' e))).1
   have hp:=(hkill.grow hbl (fun _ h=>h) (fun _ h=>.inl h)).push (ob:=⟨.own,e,ob.cs ++ ob2.cs⟩) (k:=some w.heap.size) (us:=w.heap.size :: (us1 ++ us2))
    (.inr ⟨w.heap.size,arr',us1 ++ us2,rfl,rfl,⟨_,heap_alloc_new w.drew _⟩,by
     refine Mem.of_vals (RepL.ext κ _ (Ext.of_below hbl (fun _ h=>h) (fun _ h=>h) getElem?_push hcn.bnd) _ _ _ ?_ hrepall) (Q1k (heap_alloc_new w.drew _) (by simpa using g4))
     intro b' hb' o'
     exact hbl.cell (p:=⟨b',o',none⟩) (hall b' hb').2.2.1⟩)
    (List.nodup_cons.2 ⟨fun hm'=>by have:=(hall w.heap.size hm').2.2.1; omega,hnd12⟩)
    (by
     intro b' hb'
     rcases List.mem_cons.1 hb' with rfl | hb'
     ·refine ⟨fun hs=>by have:=hcn.sb _ hs; omega,fun hB=>by have:=hcn.bnd _ (.inr hB); omega,hlt,.inl hcn.kp.size,fun hm'=>by have:=(hkill.ow _ hm').2.2.1; omega⟩
     ·obtain ⟨q1,q2,q3,q4,q5⟩:=hall b' hb'
      exact ⟨q1,q2,by omega,q4,q5⟩)
   refine VOk.val hcn hrun' (Q0U hcn.toHp hbl) hp ⟨rfl,.inr ⟨w.heap.size,cap,hlast _,by simp,g1,g2, ?_⟩⟩
   exact ⟨arr',e,heap_alloc_new w.drew _,by rw [g3]; simp⟩
theorem Y0f {x y : Operand} {t : TypeId} (ho : o.op = .call { callee:=.builtin .append,args:=#[x,y],argTypes:=#[t,t] }) (hq : appM P t (ρ x) (ρ y) H K) :
  ∃ v H',K v H' ∧ ∀ {E : Env} {a : Act} {w : World} {κ : KM} {S : BS} {uss : List (List Nat)},Sees E H ρ a w κ S uss → VOk P E o a w κ S v H':=by
 unfold appM at hq
 split at hq
 ·exact Y9A ho ‹_› ‹_› hq
 ·exact Y2U ho hq
theorem Y8S {t : TypeId} {vs vx : V} {K' : V → List Ob → Prop} (hc : appC P t vs vx H K → appC P t vs vx H K') (hK : ∀ v H,K v H → K' v H) (h : appM P t vs vx H K) : appM P t vs vx H K':=by
 unfold appM at *
 split at h
 ·obtain ⟨e,sz,by',z,h1,h2,h3,h4,h5,h6,h7,h8,h9,h10,ob2,h11,h12,h13,h14,ob,h15,h16,h17,h18,h19⟩:=h
  exact ⟨e,sz,by',z,h1,h2,h3,h4,h5,h6,h7,h8,h9,h10,ob2,h11,h12,h13,h14,ob,h15,h16,h17,h18,hK _ _ h19⟩
 ·exact hc h
end
def zpC (P : Program) (t tn : TypeId) (id sz' n : Nat) (vx : V) (H : List Ob) (K : V → List Ob → Prop) : Prop :=
 ∃ e sz by' z kn k m,tsl P t = some (e,sz) ∧ 0 < sz ∧ tbt P e = some by' ∧ 0 < by' ∧ tzer P e = some z ∧ z.length = sz ∧ tint P tn = some kn ∧ (∀ c ∈ (List.replicate m z).flatten,c.cell) ∧ vx = .lit (.int k ((m : Nat) : Int)) ∧ sz' = sz ∧ (n + m) * by' ≤ 140737488355328 ∧
  ∃ ob,H[id]? = some ob ∧ ob.st = .own ∧ ob.ty = e ∧ ob.cs.length = n * sz ∧
   K (.rsl H.length sz 0 (n + m)) (H.set id { ob with st:=.dead } ++ [⟨.own,e,ob.cs ++ (List.replicate m z).flatten⟩])
section
variable {P : Program} {E : Env} {o : Oper} {w : World} {H : List Ob} {ρ : Operand → V} {K : V → List Ob → Prop} {κ : KM} {S : BS} {uss : List (List Nat)}
theorem X8N {t tn e : TypeId} {i : TypeInfo} {zv : Value} {kq kn : IntKind} (hu : P.underlying t = some (.slice e)) (hn : P.underlying tn = some (.int kn)) (hi : P.info? e = some i) (hz : i.zero = some zv) (b : Option Addr) (n c : Nat) (hnc : n ≤ c) (ty : TypeId) :
  (Builtin.append_ #[t,tn] ty #[.slice b n c,.int kq ((0 : Nat) : Int)]).run P w = .ok (.slice b n c) w:=by
 have hw : IntKind.i64.wrap (0 : Int) = 0:=by rw [IntKind.wrap_i64]; omega
 cases b <;> simp [Builtin.append_,run_underlying hu,run_underlying hn,sizeOf,typeInfo,hi,asInt,asIntOf,hw,hnc,storeCells]
theorem X8M {t ty tn e tb : TypeId} {i : TypeInfo} {zv : Value} {kq kn : IntKind} (ht : P.underlying t = some (.slice e)) (htn : P.underlying tn = some (.int kn)) (hi : P.info? e = some i) (hz : i.zero = some zv) {g n c m : Nat} {cur : Array Value} (hg : w.heap[g]? = some (.cells cur tb (0,0)))
  (hm : 0 < m) (hs : 0 < i.size) (h48 : m * i.bytes ≤ 281474976710656) (h63 : (m : Int) ≤ 9223372036854775807) (hl : (Builtin.zeroCells zv.cells m).toList.length = m * i.size) (h1 : ∀ u ∈ (Builtin.zeroCells zv.cells m).toList,u.oneCell' = true) (hroom : n + m ≤ c) (hfit : n * i.size + m * i.size ≤ cur.size) :
  (Builtin.append_ #[t,tn] ty #[.slice (some ⟨g,0,none⟩) n c,.int kq (m : Int)]).run P w =
   .ok (.slice (some ⟨g,0,none⟩) (n + m) c) (w.setRow g (cur.toList.take (n * i.size) ++ (Builtin.zeroCells zv.cells m).toList ++ cur.toList.drop (n * i.size + (Builtin.zeroCells zv.cells m).toList.length)).toArray):=by
 have hst:=run_storeCells_at P g (n * i.size) tb (Builtin.zeroCells zv.cells m).toList 0 cur w hg (by rw [hl]; simpa using hfit) h1
 simp only [Nat.add_zero] at hst
 have hw : IntKind.i64.wrap (m : Int) = m:=by rw [IntKind.wrap_i64]; omega
 have h48i : ¬ (281474976710656 < (m : Int) * (i.bytes : Int)):=by
  rw [← Int.natCast_mul]
  omega
 have hneg : ¬ ((m : Int) < 0):=by omega
 have hns : ¬ (m * i.size = 0):=Nat.mul_ne_zero (by omega) (by omega)
 have hm0 : ¬ m = 0:=by omega
 have hs0 : ¬ i.size = 0:=by omega
 simp [Builtin.append_,run_underlying ht,run_underlying htn,sizeOf,typeInfo,zeroValue,hi,hz,asInt,asIntOf,hw,hneg,hns,hm0,hs0,h48i,hroom,Addr.add_lit,hst]
theorem X0o (z : Array Value) (n : Nat) : (Builtin.zeroCells z n).toList = (List.replicate n z.toList).flatten:=by
 have key : ∀ n : Nat,(List.range (n * z.size)).map (fun i=>z[i % z.size]!) = (List.replicate n z.toList).flatten:=by
  intro n
  induction n with
  | zero=>simp
  | succ n ih =>
   rw [List.replicate_succ',List.flatten_append,← ih,Nat.succ_mul,List.range_add,List.map_append,List.map_map]
   congr 1
   simp only [List.flatten_cons,List.flatten_nil,List.append_nil]
   refine List.ext_getElem (by simp) (fun i h1 h2=>?_)
   have h3 : i < z.size:=by simpa using h1
   simp [Nat.add_mod,Nat.mod_eq_of_lt h3,h3]
 unfold Builtin.zeroCells
 simpa using key n
theorem X7r {t tn e : TypeId} {i : TypeInfo} {zv : Value} {kq kn : IntKind} (hu : P.underlying t = some (.slice e)) (htn : P.underlying tn = some (.int kn)) (hi : P.info? e = some i) (hz : i.zero = some zv) (hzs : zv.cells.size = i.size) (hby : 0 < i.bytes) (hs : 0 < i.size)
  {bo : Option Addr} {n c m : Nat} {olds : List Value} (hol : olds.length = n * i.size) (hold : n = 0 ∨ ∃ b off,bo = some ⟨b,off,none⟩ ∧ w.rangeAt b off olds) (hnil : bo = none → n = 0 ∧ c = 0) (hnc : n ≤ c)
  (hm : 0 < m) (hg : c < n + m) (hb : (n + m) * i.bytes ≤ 140737488355328) (ty : TypeId) :
  ∃ arr cap,(Builtin.append_ #[t,tn] ty #[.slice bo n c,.int kq (m : Int)]).run P w = .ok (.slice (some ⟨w.heap.size,0,none⟩) (n + m) cap) (w.drew.alloc (.cells arr e)) ∧
   n + m ≤ cap ∧ cap ≤ maxLen ∧ arr.size = cap * i.size ∧ ∀ (j : Nat) (v : Value),(olds ++ (Builtin.zeroCells zv.cells m).toList)[j]? = some v → arr[j]? = some v:=by
 have h63 : n + m ≤ maxLen:=by
  have : (n + m) * 1 ≤ (n + m) * i.bytes:=Nat.mul_le_mul_left _ hby
  simp only [maxLen]; omega
 have h63' : ((n + m : Nat) : Int) ≤ 9223372036854775807:=by simp only [maxLen] at h63; omega
 have hmb : m * i.bytes ≤ (n + m) * i.bytes:=Nat.mul_le_mul_right _ (by omega)
 have hfc : (Builtin.firstCells i.size n (.slice bo n c)).run P w.drew = .ok olds.toArray w.drew:=by
  cases bo with
  | none =>
   obtain ⟨rfl,rfl⟩:=hnil rfl
   have : olds = []:=List.eq_nil_of_length_eq_zero (by simpa using hol)
   subst this
   exact run_firstCells_none (P:=P) w.drew i.size 0 0 0
  | some ad =>
   refine run_firstCells_some (P:=P) w.drew i.size n ad n c olds hol ?_
   rcases hold with rfl | ⟨b,off,h1,h2⟩
   ·have : olds = []:=List.eq_nil_of_length_eq_zero (by simpa using hol)
    subst this; intro j v hj; simp at hj
   ·obtain rfl : ad = ⟨b,off,none⟩:=by simpa using h1
    exact Q1x h2
 have hrun:=Lib.run_append_grow_zeros (P:=P) w t tn ty e i zv kq kn hu htn hi hz bo n c olds hfc m hm hs hg h63' (by omega) (growslice_fits hg hb)
 refine ⟨_,_,hrun,grownCap_ge w (n + m) c e,grownCap_le_maxLen w (n + m) c e h63, ?_, ?_⟩
 ·have:=grownCap_ge w (n + m) c e
  simp only [Array.size_append,List.size_toArray,size_zeroCells,hzs,hol,← Nat.add_mul]
  congr 1; omega
 ·intro j v hj
  have hlt:=(List.getElem?_eq_some_iff.1 hj).1
  rw [Array.getElem?_append_left (by simpa using hlt),← Array.getElem?_toList,Array.toList_append,List.toList_toArray]
  exact hj
theorem Y8Z {x y : Operand} {t tn : TypeId} {id sz' n : Nat} (ho : o.op = .call { callee:=.builtin .append,args:=#[x,y],argTypes:=#[t,tn] })
  (hx : ρ x = .rsl id sz' 0 n) (hq : zpC P t tn id sz' n (ρ y) H K) :
  ∃ v H',K v H' ∧ ∀ {E : Env} {a : Act} {w : World} {κ : KM} {S : BS} {uss : List (List Nat)},Sees E H ρ a w κ S uss → VOk P E o a w κ S v H':=by
 obtain ⟨e,sz,by',z,kn,kq,m,ht,hsp,hby,hbp,hz,hzl,htn,hcell,hy,rfl,hb,ob,hoi,host,hoty,hol,hK⟩:=hq
 have htn:=Q2f htn
 obtain ⟨hu,hsz⟩:=Q0h ht
 obtain ⟨i,zv,hi,hzv,rfl⟩:=Q1f hz
 obtain ⟨i',hi',rfl⟩:=Q9R hby
 obtain rfl : i = i':=by rw [hi] at hi'; simpa using hi'
 obtain ⟨i'',hi'',e2⟩:=Q2e hsz
 obtain rfl : i = i'':=by rw [hi] at hi''; simpa using hi''
 subst e2
 have hzs : zv.cells.size = i.size:=by simpa using hzl
 refine ⟨_,_,hK,fun {E a w κ S uss} hcn=>?_⟩
 have hex : ∀ {sv : Value} {v' : Value} {w' : World},a.eval x = sv → (Builtin.append_ #[t,tn] o.type #[sv,a.eval y]).run P w = .ok v' w' → (execOp a.eval o).run P w = .ok (.value v') w':=by
  intro sv v' w' hs hr
  subst hs
  simp [execOp,ho,resolve,invoke,builtin,hr]
 have hxv:=hcn.ev x
 rw [hx] at hxv
 obtain ⟨_,hxv⟩:=hxv
 have hyv:=hcn.ev y
 rw [hy] at hyv
 obtain ⟨_,hyv,_⟩:=hyv
 have hkill:=hcn.toHp.kill id ob
 have hlast : ∀ (k : Option Nat),kat (κ ++ [some k]) H.length = some k:=by intro k; rw [← hcn.kl]; exact Q1o κ k
 -- the zeros
 have hzc : (Builtin.zeroCells zv.cells m).toList = (List.replicate m zv.cells.toList).flatten:=X0o zv.cells m
 have hrep : RepL w S E.B κ (List.replicate m (zv.cells.toList.map V.ofVal1)).flatten (Builtin.zeroCells zv.cells m).toList []:=by rw [hzc]; exact Q1s (Q1j S E.B κ _) _
 have hxl : (Builtin.zeroCells zv.cells m).toList.length = m * i.size:=by rw [hzc,List.length_flatten]; simp [hzs]
 generalize hxs : (Builtin.zeroCells zv.cells m).toList = xs at *
 -- the slice that grows
 obtain ⟨bo,c,olds,us1,hc,hnc,holen,f3,hnd1,hold,hnil,hdst⟩ : ∃ bo c olds us1,a.eval x = .slice bo n c ∧ n ≤ c ∧ olds.length = n * i.size ∧ RepL w S E.B κ ob.cs olds us1 ∧ us1.Nodup ∧
   (n = 0 ∨ ∃ b off,bo = some ⟨b,off,none⟩ ∧ w.rangeAt b off olds) ∧ (bo = none → n = 0 ∧ c = 0) ∧
   ((kat κ id = some none ∧ c = 0 ∧ ob.cs = [] ∧ us1 = [] ∧ olds = []) ∨ ∃ b arr,bo = some ⟨b,0,none⟩ ∧ kat κ id = some (some b) ∧ uss[id]? = some (b :: us1) ∧ Blk w b arr ∧ arr.size = c * i.size ∧ c ≤ maxLen ∧ room w b (0 * i.size + c * i.size) ∧ w.rangeAt b 0 olds):=by
  rcases hcn.toHp.own hoi host with ⟨hk0,hcs0,hus0⟩ | ⟨b,arr,u,hkb,hus,hgb,hm⟩
  ·rcases hxv with ⟨_,hn,_,bo,hv⟩ | ⟨b,c,hk,_⟩
   ·subst hn
    exact ⟨bo,0,[],[],hv,Nat.le_refl _,by simp,by rw [hcs0]; exact ⟨rfl,rfl⟩,by simp,.inl rfl,fun _=>⟨rfl,rfl⟩,.inl ⟨hk0,rfl,hcs0,rfl,rfl⟩⟩
   ·rw [hk0] at hk; cases hk
  ·rcases hxv with ⟨hk,_⟩ | ⟨b',c,hk,hv,h1,h2,h3⟩
   ·rw [hkb] at hk; cases hk
   ·obtain rfl : b = b':=by rw [hkb] at hk; simpa using hk
    obtain ⟨olds,f1,f2,f3⟩:=hm.vals
    have hnd : (b :: u).Nodup:=Q0q hcn.nd (List.mem_of_getElem? hus)
    have harr : arr.size = c * i.size:=by
     obtain ⟨tyb,hg⟩:=hgb
     obtain ⟨a1,t1,q1,q2⟩:=h3
     rw [hg] at q1
     simp only [Option.some.injEq,Obj.cells.injEq] at q1
     rw [q1.1]; simpa using q2.symm
    exact ⟨_,c,olds,u,by simpa using hv,h1,by omega,f3,(List.nodup_cons.1 hnd).2,.inr ⟨b,0,rfl,f2⟩,by (intro h; cases h),.inr ⟨b,arr,rfl,hkb,hus,hgb,harr,h2,h3,f2⟩⟩
 have hsub1 : ∀ b ∈ us1,∃ l,uss[id]? = some l ∧ b ∈ l:=by
  intro x hx
  rcases hdst with ⟨_,_,_,rfl,_⟩ | ⟨b,arr,_,_,hus,_⟩
  ·cases hx
  ·exact ⟨_,hus,by simp [hx]⟩
 have hloose : ∀ {l : List Nat},uss[id]? = some l → ∀ b ∈ l,¬ S b ∧ ¬ E.B b ∧ b < w.heap.size ∧ (E.w0.heap.size ≤ b ∨ b ∈ E.M) ∧ b ∉ (uss.set id []).flatten:=by
  intro l hl b hb
  have:=hcn.toHp.loose (id:=id) (id2:=id) (.inl rfl) hl b hb
  rwa [List.set_set] at this
 have hall : ∀ x ∈ us1,¬ S x ∧ ¬ E.B x ∧ x < w.heap.size ∧ (E.w0.heap.size ≤ x ∨ x ∈ E.M) ∧ x ∉ (uss.set id []).flatten:=by
  intro x hx
  obtain ⟨l,h1,h2⟩:=hsub1 x hx
  exact hloose h1 x h2
 generalize hZ : (List.replicate m (zv.cells.toList.map V.ofVal1)).flatten = Z at *
 have hrepall : RepL w S E.B κ (ob.cs ++ Z) (olds ++ xs) us1:=RepL.append.2 ⟨olds,xs,us1,[],rfl,by simp,f3,hrep⟩
 by_cases hm0 : m = 0
 ·-- nothing is appended
  subst hm0
  have hn0 : Z = []:=by rw [← hZ]; simp
  have hrun:=hex hc (by rw [hyv]; exact X8N hu htn hi hzv bo n c hnc _)
  rw [hn0,List.append_nil,Nat.add_zero]
  rcases hdst with ⟨hk0,rfl,hcs0,rfl,rfl⟩ | ⟨b,arr,rfl,hkb,hus,hgb,harr,hcm,hroom,f2⟩
  ·obtain rfl : n = 0:=by omega
   have hp:=hkill.push (ob:=⟨.own,e,ob.cs⟩) (k:=none) (us:=[]) (.inl ⟨rfl,hcs0,rfl⟩) (by simp) (by simp)
   exact VOk.val hcn hrun (Q0U hcn.toHp (Below.refl _ _)) hp ⟨rfl,.inl ⟨hlast none,rfl,rfl,bo,rfl⟩⟩
  ·have hnd : (b :: us1).Nodup:=Q0q hcn.nd (List.mem_of_getElem? hus)
   have hp:=hkill.push (ob:=⟨.own,e,ob.cs⟩) (k:=some b) (us:=b :: us1) (.inr ⟨b,arr,us1,rfl,rfl,hgb,
    Mem.of_vals (RepL.ext κ _ ⟨fun _ h=>h,fun _ h=>h,getElem?_push,fun _ _ h=>h,fun _ _ _=>rfl⟩ _ _ _ (fun _ _ _=>rfl) f3) f2⟩) hnd (fun x hx=>hloose hus x hx)
   exact VOk.val hcn hrun (Q0U hcn.toHp (Below.refl _ _)) hp ⟨rfl,.inr ⟨b,c,hlast _,by simp,hnc,hcm,hroom⟩⟩
 ·by_cases hroom' : n + m ≤ c
  ·-- in place
   rcases hdst with ⟨_,rfl,_⟩ | ⟨b,arr,rfl,hkb,hus,hgb,harr,hcm,hroom,f2⟩
   ·omega
   have hgb':=hgb
   obtain ⟨tyb,hg⟩:=hgb'
   have hnd : (b :: us1).Nodup:=Q0q hcn.nd (List.mem_of_getElem? hus)
   have hgm:=hloose hus b (by simp)
   have hfit : n * i.size + xs.length ≤ arr.size:=by rw [hxl,harr,← Nat.add_mul]; exact Nat.mul_le_mul_right _ hroom'
   have hone : ∀ v ∈ xs,v.oneCell' = true:=RepL.cell hcell hrep
   have hrun:=X8M (P:=P) (w:=w) (ty:=o.type) (kq:=kq) hu htn hi hzv hg (by omega) hsp (by have : m * i.bytes ≤ (n + m) * i.bytes:=Nat.mul_le_mul_right _ (by omega); omega) (by simp only [maxLen] at hcm; omega) (by rw [hxs]; exact hxl) (by rw [hxs]; exact hone) hroom' (by rw [hxl] at hfit; exact hfit)
   rw [hxs] at hrun
   have hrun':=hex hc (by rw [hyv]; exact hrun)
   have hsz' : (arr.toList.take (n * i.size) ++ xs ++ arr.toList.drop (n * i.size + xs.length)).toArray.size = arr.size:=by
    simp only [List.size_toArray,List.length_append,List.length_take,List.length_drop,Array.length_toList]
    omega
   have hcont : ∀ (j : Nat) (v : Value),(olds ++ xs)[j]? = some v → (arr.toList.take (n * i.size) ++ xs ++ arr.toList.drop (n * i.size + xs.length)).toArray[j]? = some v:=by
    intro j v hj
    have hta : (arr.toList.take (n * i.size)).length = n * i.size:=by simp; omega
    have hj':=(List.getElem?_eq_some_iff.1 hj).1
    rw [List.length_append] at hj'
    rw [List.getElem?_toArray,List.append_assoc]
    by_cases h1 : j < n * i.size
    ·rw [List.getElem?_append_left (by omega)] at hj
     rw [List.getElem?_append_left (by omega),List.getElem?_take,if_pos h1,Array.getElem?_toList]
     have:=f2 j v hj
     rwa [Nat.zero_add,cell_of_row w b j arr tyb (0,0) hg] at this
    ·rw [List.getElem?_append_right (by omega)] at hj
     rw [List.getElem?_append_right (by omega),List.getElem?_append_left (by omega),hta,← holen]
     exact hj
   generalize hA : (arr.toList.take (n * i.size) ++ xs ++ arr.toList.drop (n * i.size + xs.length)).toArray = arr' at *
   have hext : Ext w (w.setRow b arr') S S E.B E.B κ (κ ++ [some (some b)]):=by
    refine ⟨fun _ h=>h,fun _ h=>h,getElem?_push, ?_, ?_⟩
    ·intro b' k hr
     by_cases e : b' = b
     ·subst e
      obtain ⟨a1,t1,q1,q2⟩:=hr
      rw [hg] at q1
      simp only [Option.some.injEq,Obj.cells.injEq] at q1
      exact ⟨_,tyb,setRow_heap w b' arr _ tyb (0,0) hg,by rw [hsz',q1.1]; exact q2⟩
     ·exact Q1r (setRow_other w b b' _ e) hr
    ·intro b' hb' o'
     refine World.cell?_of_block (w:=w) (setRow_other w b b' _ ?_)
     rintro rfl
     rcases hb' with hb' | hb'
     ·exact hgm.1 hb'
     ·exact hgm.2.1 hb'
   have hpk:=hkill.poke (arr':=arr') hgm.2.2.2.2 hgm.1 hgm.2.1 hgm.2.2.2.1 hgb hsz'
   have hwsz : (w.setRow b arr').heap.size = w.heap.size:=by simp [World.setRow]
   have hbn : b ∉ us1:=(List.nodup_cons.1 hnd).1
   have hp:=hpk.push (ob:=⟨.own,e,ob.cs ++ Z⟩) (k:=some b) (us:=b :: (us1))
    (.inr ⟨b,arr',us1,rfl,rfl,⟨tyb,setRow_heap w b arr arr' tyb (0,0) hg⟩,by
     refine Mem.of_vals (RepL.ext κ _ hext _ _ _ ?_ hrepall) (Q1k (setRow_heap w b arr arr' tyb (0,0) hg) (by simpa using hcont))
     intro b' hb' o'
     exact World.cell?_of_block (w:=w) (setRow_other w b b' _ (by rintro rfl; exact hbn hb'))⟩)
    (List.nodup_cons.2 ⟨hbn,hnd1⟩)
    (by
     intro x hx
     rw [hwsz]
     rcases List.mem_cons.1 hx with rfl | hx
     ·exact hgm
     ·exact hall x hx)
   exact VOk.val hcn hrun' hext hp ⟨rfl,.inr ⟨b,c,hlast _,by simp,hroom',hcm,hext.r _ _ hroom⟩⟩
  ·-- in a new block
   obtain ⟨arr',cap,hrun,g1,g2,g3,g4⟩:=X7r (w:=w) (kq:=kq) hu htn hi hzv hzs hbp hsp (bo:=bo) (n:=n) (c:=c) (m:=m) (olds:=olds) holen hold hnil hnc (by omega) (by omega) hb o.type
   rw [hxs] at g4
   have hrun':=hex hc (by rw [hyv]; exact hrun)
   have hbl:=Q2S w (.cells arr' e)
   have hlt : w.heap.size < (w.drew.alloc (.cells arr' e)).heap.size:=(Array.getElem?_eq_some_iff.1 (heap_alloc_new w.drew (.cells arr' e))).1
   have hp:=(hkill.grow hbl (fun _ h=>h) (fun _ h=>.inl h)).push (ob:=⟨.own,e,ob.cs ++ Z⟩) (k:=some w.heap.size) (us:=w.heap.size :: (us1))
    (.inr ⟨w.heap.size,arr',us1,rfl,rfl,⟨_,heap_alloc_new w.drew _⟩,by
     refine Mem.of_vals (RepL.ext κ _ (Ext.of_below hbl (fun _ h=>h) (fun _ h=>h) getElem?_push hcn.bnd) _ _ _ ?_ hrepall) (Q1k (heap_alloc_new w.drew _) (by simpa using g4))
     intro b' hb' o'
     exact hbl.cell (p:=⟨b',o',none⟩) (hall b' hb').2.2.1⟩)
    (List.nodup_cons.2 ⟨fun hm'=>by have:=(hall w.heap.size hm').2.2.1; omega,hnd1⟩)
    (by
     intro b' hb'
     rcases List.mem_cons.1 hb' with rfl | hb'
     ·refine ⟨fun hs=>by have:=hcn.sb _ hs; omega,fun hB=>by have:=hcn.bnd _ (.inr hB); omega,hlt,.inl hcn.kp.size,fun hm'=>by have:=(hkill.ow _ hm').2.2.1; omega⟩
     ·obtain ⟨q1,q2,q3,q4,q5⟩:=hall b' hb'
      exact ⟨q1,q2,by omega,q4,q5⟩)
   refine VOk.val hcn hrun' (Q0U hcn.toHp hbl) hp ⟨rfl,.inr ⟨w.heap.size,cap,hlast _,by simp,g1,g2, ?_⟩⟩
   exact ⟨arr',e,heap_alloc_new w.drew _,by rw [g3]; simp⟩
def appZ (P : Program) (t tn : TypeId) (vs vx : V) (H : List Ob) (K : V → List Ob → Prop) : Prop :=
 match vs with
 | .rsl id sz' 0 n=>zpC P t tn id sz' n vx H K
 | _=>False
theorem Y6e {x y : Operand} {t tn : TypeId} (ho : o.op = .call { callee:=.builtin .append,args:=#[x,y],argTypes:=#[t,tn] }) (hq : appZ P t tn (ρ x) (ρ y) H K) :
  ∃ v H',K v H' ∧ ∀ {E : Env} {a : Act} {w : World} {κ : KM} {S : BS} {uss : List (List Nat)},Sees E H ρ a w κ S uss → VOk P E o a w κ S v H':=by
 unfold appZ at hq
 split at hq
 ·exact Y8Z ho ‹_› hq
 ·exact hq.elim
theorem Y8R {t tn : TypeId} {vs vx : V} {K' : V → List Ob → Prop} (hK : ∀ v H,K v H → K' v H) (h : appZ P t tn vs vx H K) : appZ P t tn vs vx H K':=by
 unfold appZ at *
 split at h
 ·obtain ⟨e,sz,by',z,kn,k,m,h1,h2,h3,h4,h5,h6,h7,h8,h9,h10,h11,ob,h12,h13,h14,h15,h16⟩:=h
  exact ⟨e,sz,by',z,kn,k,m,h1,h2,h3,h4,h5,h6,h7,h8,h9,h10,h11,ob,h12,h13,h14,h15,hK _ _ h16⟩
 ·exact h.elim
theorem Y8Q {t : TypeId} {vs vx : V} : ¬ appZ P t t vs vx H K:=by
 intro h
 unfold appZ at h
 split at h
 ·obtain ⟨e,sz,by',z,kn,k,m,h1,h2,h3,h4,h5,h6,h7,_⟩:=h
  have q1:=(Q0h h1).1
  have q2:=Q2f h7
  rw [q1] at q2; cases q2
 ·exact h.elim
end
theorem Q2m : ∀ {uss : List (List Nat)} {id : Nat} {us : List Nat} {b : Nat},b ∈ (uss.set id us).flatten → b ∈ us ∨ b ∈ uss.flatten
 | [],_,_,_,h=>by simp at h
 | u :: uss,0,us,b,h=>by
  simp only [List.set_cons_zero,List.flatten_cons,List.mem_append] at h ⊢
  rcases h with h | h
  ·exact .inl h
  ·exact .inr (.inr h)
 | u :: uss,id + 1,us,b,h=>by
  simp only [List.set_cons_succ,List.flatten_cons,List.mem_append] at h ⊢
  rcases h with h | h
  ·exact .inr (.inl h)
  ·exact (Q2m h).imp (fun h=>h) .inr
theorem Q5U : ∀ {uss : List (List Nat)} {id : Nat} {us : List Nat},uss.flatten.Nodup → us.Nodup → (∀ b ∈ us,b ∉ uss.flatten) → (uss.set id us).flatten.Nodup
 | [],_,_,h,_,_=>by simp
 | u :: uss,0,us,h,h1,h2=>by
  simp only [List.set_cons_zero,List.flatten_cons] at h h2 ⊢
  rw [List.nodup_append] at h ⊢
  refine ⟨h1,h.2.1, ?_⟩
  rintro a ha b hb rfl
  exact h2 a ha (List.mem_append_right _ hb)
 | u :: uss,id + 1,us,h,h1,h2=>by
  simp only [List.set_cons_succ,List.flatten_cons] at h h2 ⊢
  rw [List.nodup_append] at h ⊢
  refine ⟨h.1,Q5U h.2.1 h1 (fun b hb hm=>h2 b hb (List.mem_append_right _ hm)), ?_⟩
  rintro a ha b hb rfl
  rcases Q2m hb with hb | hb
  ·exact h2 a hb (List.mem_append_left _ ha)
  ·exact h.2.2 a ha a hb rfl
section
variable {P : Program} {E : Env} {o : Oper} {a : Act} {w : World} {H : List Ob} {κ : KM} {S : BS} {uss : List (List Nat)} {ρ : Operand → V}
def isRes (o : Option Ob) : Prop:=∃ ob,o = some ob ∧ ob.st = .res
theorem Hp.resv (h : Hp E H w κ S uss) {id : Nat} (hr : isRes H[id]?) : kat κ id = none:=by
 obtain ⟨ob,h1,h2⟩:=hr
 cases hk : kat κ id with
 | none=>rfl
 | some k =>
  exfalso
  have hlt:=(List.getElem?_eq_some_iff.1 h1).1
  have hu : uss[id]? = some uss[id]!:=by
   rw [List.getElem!_eq_getElem?_getD,List.getElem?_eq_getElem (by rw [h.ul]; omega)]; rfl
  have:=h.ob id ob k _ h1 hk hu
  unfold ObR at this
  rw [h2] at this
  exact this
theorem Q8T {κ : KM} {id : Nat} {k : Option Nat} (hn : kat κ id = none) : ∀ (i : Nat) (x : Option Nat),kat κ i = some x → kat (κ.set id (some k)) i = some x:=by
 intro i x h
 unfold kat at *
 rw [List.getElem?_set]
 by_cases e : id = i
 ·subst e; rw [hn] at h; cases h
 ·rw [if_neg e]; exact h
theorem Q2b {κ : KM} {id : Nat} {k : Option Nat} (hl : id < κ.length) : kat (κ.set id (some k)) id = some k:=by
 unfold kat
 rw [List.getElem?_set,if_pos rfl,if_pos hl]; rfl
theorem Hp.fill (h : Hp E H w κ S uss) {id : Nat} (hr : isRes H[id]?) {ob : Ob} {k : Option Nat} {us : List Nat} (h1 : ObR w S E.B (κ.set id (some k)) ob k us) (h2 : us.Nodup)
  (h3 : ∀ b ∈ us,¬ S b ∧ ¬ E.B b ∧ b < w.heap.size ∧ (E.w0.heap.size ≤ b ∨ b ∈ E.M) ∧ b ∉ uss.flatten) : Hp E (H.set id ob) w (κ.set id (some k)) S (uss.set id us):=by
 have hn:=h.resv hr
 obtain ⟨ob0,hi,_⟩:=hr
 have hlt:=(List.getElem?_eq_some_iff.1 hi).1
 have hext : Ext w w S S E.B E.B κ (κ.set id (some k)):=⟨fun _ h=>h,fun _ h=>h,Q8T hn,fun _ _ h=>h,fun _ _ _=>rfl⟩
 refine { kl:=by simp [h.kl],al:=?_,ul:=by simp [h.ul],ob:=?_,nd:=Q5U h.nd h2 fun b hb=>(h3 b hb).2.2.2.2,ow:=?_,sb:=h.sb,s0:=h.s0,s1:=h.s1,bb:=h.bb,kp:=h.kp,kk:=fun i x hx=>Q8T hn i x (h.kk i x hx) }
 ·intro i ob' a st
  rw [List.getElem?_set] at a
  by_cases e : id = i
  ·subst e; exact ⟨k,Q2b (by rw [h.kl]; exact hlt)⟩
  ·rw [if_neg e] at a
   obtain ⟨x,hx⟩:=h.al i ob' a st
   exact ⟨x,Q8T hn _ _ hx⟩
 ·intro i ob' k' us' a b c
  rw [List.getElem?_set] at a c
  by_cases e : id = i
  ·subst e
   rw [if_pos rfl,if_pos hlt] at a
   rw [if_pos rfl,if_pos (by rw [h.ul]; exact hlt)] at c
   rw [Q2b (by rw [h.kl]; exact hlt)] at b
   obtain rfl:=Option.some.inj a
   obtain rfl:=Option.some.inj b
   obtain rfl:=Option.some.inj c
   exact h1
  ·rw [if_neg e] at a c
   have b' : kat κ i = some k':=by
    unfold kat at b ⊢
    rw [List.getElem?_set,if_neg e] at b; exact b
   exact (h.ob i ob' k' us' a b' c).ext hext (fun _ _=>rfl)
 ·intro b hb
  rcases Q2m hb with hb | hb
  ·obtain ⟨q1,q2,q3,q4,_⟩:=h3 b hb
   exact ⟨q1,q2,q3,q4⟩
  ·exact h.ow b hb
theorem Hp.madeAt (h : Hp E H w κ S uss) {id : Nat} (hr : isRes H[id]?) {w' : World} (hb : Below w.heap.size w w') {ty : TypeId} {arr : Array Value} (hg : w'.heap[w.heap.size]? = some (.cells arr ty (0,0))) {cs : List V} {xs : List Value}
  (hrep : RepL w S E.B κ cs xs []) (hx : ∀ (j : Nat) (v : Value),xs[j]? = some v → arr[j]? = some v) :
  Hp E (H.set id ⟨.own,ty,cs⟩) w' (κ.set id (some (some w.heap.size))) S (uss.set id [w.heap.size]):=by
 have hn:=h.resv hr
 have hlt : w.heap.size < w'.heap.size:=(Array.getElem?_eq_some_iff.1 hg).1
 have hg':=h.grow hb (fun _ h=>h) (fun _ h=>.inl h)
 refine hg'.fill hr (k:=some w.heap.size) (us:=[w.heap.size]) ?_ (by simp) ?_
 ·refine .inr ⟨w.heap.size,arr,[],rfl,rfl,⟨_,hg⟩, ?_⟩
  exact Mem.of_vals (Rep.grow hb (fun _ h=>h) (fun _ h=>h) (Q8T hn) h.bnd hrep) (Q1k hg (by simpa using hx))
 ·intro b hb'
  obtain rfl : b = w.heap.size:=by simpa using hb'
  refine ⟨fun hs=>by have:=h.sb _ hs; omega,fun hB=>by have:=h.bnd _ (.inr hB); omega,hlt,.inl h.kp.size,fun hm=>by have:=(h.ow _ hm).2.2.1; omega⟩
def apeC (P : Program) (t : TypeId) (vs vx : V) (K : TypeId → Nat → Nat → List V → Prop) : Prop :=
 vs = .emp ∧ ∃ e sz by' z,tsl P t = some (e,sz) ∧ 0 < sz ∧ tbt P e = some by' ∧ 0 < by' ∧ tzer P e = some z ∧ z.length = sz ∧ ∃ m news,srcC [] vx sz m news ∧ (∀ c ∈ news,c.cell) ∧
  m * by' ≤ 140737488355328 ∧ K e sz m news
theorem Y9m {v : V} {sz m : Nat} {news : List V} (h : srcC [] v sz m news) : srcC H v sz m news:=by
 unfold srcC at *
 split at h
 ·exact h
 ·exact h
 ·obtain ⟨_,_,ob,h,_⟩:=h; simp at h
 ·exact h.elim
def slC (P : Program) (op : Op) (ρ : Operand → V) (id : Nat) (H : List Ob) (K : V → List Ob → Prop) : Prop :=
 isRes H[id]? ∧ match op with
 | .alloc t=>∃ z,tzer P t = some z ∧ K (.ref id 0) (H.set id ⟨.own,t,z⟩)
 | .makeSlice t l c=>mkC P t (ρ l) (ρ c) fun e sz n cs=>K (.rsl id sz 0 n) (H.set id ⟨.own,e,cs⟩)
 | .call { callee:=.builtin .append,args,argTypes }=>∃ x y t,args = #[x,y] ∧ argTypes = #[t,t] ∧ apeC P t (ρ x) (ρ y) fun e sz m news=>K (.rsl id sz 0 m) (H.set id ⟨.own,e,news⟩)
 | _=>False
theorem Y6I {K : V → List Ob → Prop} {id : Nat} (hq : slC P o.op ρ id H K) : ∃ v H',K v H' ∧ ∀ {E : Env} {a : Act} {w : World} {κ : KM} {S : BS} {uss : List (List Nat)},Sees E H ρ a w κ S uss → VOk P E o a w κ S v H':=by
 obtain ⟨hr,hq⟩:=hq
 have hlt : id < H.length:=by obtain ⟨_,h,_⟩:=hr; exact (List.getElem?_eq_some_iff.1 h).1
 split at hq
 ·rename_i t ho
  obtain ⟨z,hz,hK⟩:=hq
  obtain ⟨i,v,hi,hzv,rfl⟩:=Q1f hz
  refine ⟨_,_,hK,fun {E a w κ S uss} hc=>?_⟩
  have hb:=Q0M w (.cells v.cells t)
  have hm:=hc.toHp.madeAt hr hb (heap_alloc_new w _) (xs:=v.cells.toList) (Q1j S E.B κ _) (fun j u hj=>by simpa using hj)
  refine VOk.val hc (x:=.pointer (some ⟨w.heap.size,0,none⟩)) ?_ (Ext.of_below hb (fun _ h=>h) (fun _ h=>h) (Q8T (hc.toHp.resv hr)) hc.bnd) hm ⟨rfl,w.heap.size,Q2b (by rw [hc.kl]; exact hlt),rfl⟩
  simp [execOp,ho,Instr.alloc,zeroValue,typeInfo,hi,hzv,newVar,newRow]
 ·rename_i t l c ho
  obtain ⟨e,sz,by',z,ht,hby,hpos,hz,hzl,k,k',n,m,hl,hc,h0,hnm,hb,hK⟩:=hq
  obtain ⟨hu,hsz⟩:=Q0h ht
  obtain ⟨i,zv,hi,hzv,rfl⟩:=Q1f hz
  obtain ⟨i',hi',rfl⟩:=Q9R hby
  obtain rfl : i = i':=by rw [hi] at hi'; simpa using hi'
  obtain ⟨i'',hi'',rfl⟩:=Q2e hsz
  obtain rfl : i = i'':=by rw [hi] at hi''; simpa using hi''
  have hzs : zv.cells.size = i.size:=by simpa using hzl
  refine ⟨_,_,hK,fun {E a w κ S uss} hcn=>?_⟩
  have hlv:=hcn.ev l
  have hcv:=hcn.ev c
  rw [hl] at hlv; rw [hc] at hcv
  obtain ⟨_,hlv,_⟩:=hlv
  obtain ⟨_,hcv,_⟩:=hcv
  have hm63 : m ≤ 9223372036854775807:=by
   have : (1 : Int) * m ≤ (i.bytes : Int) * m:=Int.mul_le_mul_of_nonneg_right (by omega) (by omega)
   omega
  have hrun:=run_make (P:=P) w t e i zv hu hi hzv k k' n m h0 hnm hb hm63
  have hbl:=Q0M w (.cells (madeCells zv.cells (m.toNat * i.size)) e)
  have hml : (madeCells zv.cells (m.toNat * i.size)).toList = (List.replicate m.toNat zv.cells.toList).flatten:=by rw [← hzs]; exact Q1Q _ _
  have hrep : RepL w S E.B κ (List.replicate n.toNat (zv.cells.toList.map V.ofVal1)).flatten (List.replicate n.toNat zv.cells.toList).flatten []:=Q1s (Q1j S E.B κ _) _
  have hx : ∀ (j : Nat) (v : Value),(List.replicate n.toNat zv.cells.toList).flatten[j]? = some v → (madeCells zv.cells (m.toNat * i.size))[j]? = some v:=by
   intro j v hj
   rw [← Array.getElem?_toList,hml]
   have e1 : m.toNat = n.toNat + (m.toNat - n.toNat):=by omega
   rw [e1,← List.replicate_append_replicate,List.flatten_append,List.getElem?_append_left (List.getElem?_eq_some_iff.1 hj).1]
   exact hj
  have hm:=hcn.toHp.madeAt hr hbl (heap_alloc_new w _) hrep hx
  refine VOk.val hcn (by simp only [execOp,ho]; rw [Sem.run_bind,hlv,hcv,hrun]; rfl) (Ext.of_below hbl (fun _ h=>h) (fun _ h=>h) (Q8T (hcn.toHp.resv hr)) hcn.bnd) hm ⟨rfl,.inr ⟨w.heap.size,m.toNat, ?_, ?_,by omega,by simp only [maxLen]; omega, ?_⟩⟩
  ·exact Q2b (by rw [hcn.kl]; exact hlt)
  ·simp
  ·exact ⟨_,e,heap_alloc_new w _,by simp [size_madeCells]⟩
 ·rename_i args ts ho
  obtain ⟨x,y,t,rfl,rfl,hx,e,sz,by',z,ht,hsp,hby,hbp,hz,hzl,m,news,hsrc,hcell,hb,hK⟩:=hq
  obtain ⟨hu,hsz⟩:=Q0h ht
  obtain ⟨i,zv,hi,hzv,rfl⟩:=Q1f hz
  obtain ⟨i',hi',rfl⟩:=Q9R hby
  obtain rfl : i = i':=by rw [hi] at hi'; simpa using hi'
  obtain ⟨i'',hi'',rfl⟩:=Q2e hsz
  obtain rfl : i = i'':=by rw [hi] at hi''; simpa using hi''
  have hzs : zv.cells.size = i.size:=by simpa using hzl
  refine ⟨_,_,hK,fun {E a w κ S uss} hcn=>?_⟩
  have hrs:=hcn.toHp.resv hr
  obtain ⟨bo2,c2,xs,hyv,hnl,hxl,hrep,hwhere⟩:=X4O hcn.toHp (Y9m hsrc) (hcn.ev y)
  have hex : ∀ {sv : Value} {v' : Value} {w' : World},a.eval x = sv → (Builtin.append_ #[t,t] o.type #[sv,a.eval y]).run P w = .ok v' w' → (execOp a.eval o).run P w = .ok (.value v') w':=by
   intro sv v' w' hs hr
   subst hs
   simp [execOp,ho,resolve,invoke,builtin,hr]
  have hxv:=hcn.ev x
  rw [hx] at hxv
  obtain ⟨_,bo,hxv⟩:=hxv
  by_cases hm : m = 0
  ·subst hm
   have hn0 : news = []:=List.eq_nil_of_length_eq_zero (by simpa using hnl)
   subst hn0
   have hrun:=hex hxv (by rw [hyv]; exact Q0T hu hi bo 0 0 (Nat.le_refl _) _ c2 _)
   have hp:=hcn.toHp.fill hr (ob:=⟨.own,e,[]⟩) (k:=none) (us:=[]) (.inl ⟨rfl,rfl,rfl⟩) (by simp) (by simp)
   refine VOk.val hcn hrun (Ext.of_below (Below.refl _ _) (fun _ h=>h) (fun _ h=>h) (Q8T hrs) hcn.bnd) hp ⟨rfl,.inl ⟨?_,rfl,rfl,bo,rfl⟩⟩
   exact Q2b (by rw [hcn.kl]; exact hlt)
  ·obtain ⟨b2,off2,rfl,hrange⟩:=hwhere.resolve_left hm
   obtain ⟨arr,cap,hrun,g1,g2,g3,g4⟩:=Q8p (w:=w) (c2:=c2) hu hi hzv hzs hbp (bo:=bo) (n:=0) (c:=0) (olds:=[]) (by simp) (.inl rfl) (fun _=>⟨rfl,rfl⟩) hxl hrange (by omega) (by omega) (by simpa using hb) o.type
   have hrun':=hex hxv (by rw [hyv]; exact hrun)
   have hbl:=Q2S w (.cells arr e)
   have hmade:=hcn.toHp.madeAt hr hbl (heap_alloc_new w.drew _) hrep (by simpa using g4)
   simp only [Nat.zero_add] at g1 hrun'
   refine VOk.val hcn hrun' (Ext.of_below hbl (fun _ h=>h) (fun _ h=>h) (Q8T hrs) hcn.bnd) hmade ⟨rfl,.inr ⟨w.heap.size,cap, ?_, ?_,g1,g2, ?_⟩⟩
   ·exact Q2b (by rw [hcn.kl]; exact hlt)
   ·simp
   ·exact ⟨arr,e,heap_alloc_new w.drew _,by rw [g3]; simp⟩
 ·exact hq.elim
theorem Hp.keepOne (h : Hp E H w κ S uss) : Hp E (H ++ [⟨.res,0,[]⟩]) w (κ ++ [none]) S (uss ++ [[]]):=by
 refine h.append (κ':=[none]) (uss':=[[]]) rfl ?_ rfl ?_ (by simp) (by simp)
 ·intro i ob' a st
  cases i with
  | zero=>simp at a; subst a; rcases st with st | st <;> cases st
  | succ i=>simp at a
 ·intro i ob' k' us' a b c
  cases i with
  | zero=>cases b
  | succ i=>simp at a
end
section
variable {P : Program}
theorem X6Y {o : Oper} {H : List Ob} {ρ : Operand → V} {K : V → List Ob → Prop} (hq : wpV P o.op ρ H K) :
  ∃ v H',K v H' ∧ ∀ {E : Env} {a : Act} {w : World} {κ : KM} {S : BS} {uss : List (List Nat)},Sees E H ρ a w κ S uss → VOk P E o a w κ S v H':=by
 unfold wpV at hq
 split at hq
 ·exact Y3X ‹_› hq
 ·exact Y8O ‹_› hq
 ·exact Y8N ‹_› hq
 ·exact Y9B ‹_› hq
 ·exact Y9l ‹_› hq
 ·rename_i args ts ho
  obtain ⟨x,y,t,rfl,rfl,hq⟩:=hq
  exact Y2U ho hq
 ·rename_i f args ts ho
  rcases hq with hq | hq
  ·obtain ⟨v,h1,h2⟩:=VOk.quiet (o:=o) (ρ:=ρ) (H:=H) (K:=fun v=>K v H) (by rw [ho]; exact hq)
   exact ⟨v,H,h1,h2⟩
  ·exact Y3S ho hq
 ·obtain ⟨v,h1,h2⟩:=VOk.quiet (o:=o) (ρ:=ρ) (H:=H) (K:=fun v=>K v H) hq
  exact ⟨v,H,h1,h2⟩
end
def slt (sl : List (Nat × Nat)) (op : Op) (d : Option Tmp) : Option Nat :=
 match op with
 | .alloc _=>d.bind fun d=>sl.lookup d
 | .makeSlice _ _ _=>d.bind fun d=>sl.lookup d
 | .call { callee:=.builtin .append,.. }=>d.bind fun d=>sl.lookup d
 | _=>none
def wpS (P : Program) (n : Option Nat) (op : Op) (ρ : Operand → V) (H : List Ob) (K : V → List Ob → Prop) : Prop :=
 match n with
 | some id=>slC P op ρ id H K
 | none=>wpV P op ρ H K
theorem X2B {P : Program} {id : Nat} {op : Op} {ρ : Operand → V} {H : List Ob} {K : V → List Ob → Prop} : wpS P (some id) op ρ H K = slC P op ρ id H K:=rfl
theorem Q9P {P : Program} {op : Op} {ρ : Operand → V} {H : List Ob} {K : V → List Ob → Prop} : wpS P none op ρ H K = wpV P op ρ H K:=rfl
theorem Y6j {P : Program} {n : Option Nat} {o : Oper} {H : List Ob} {ρ : Operand → V} {K : V → List Ob → Prop} (hq : wpS P n o.op ρ H K) :
  ∃ v H',K v H' ∧ ∀ {E : Env} {a : Act} {w : World} {κ : KM} {S : BS} {uss : List (List Nat)},Sees E H ρ a w κ S uss → VOk P E o a w κ S v H':=by
 cases n with
 | none=>exact X6Y hq
 | some id=>exact Y6I hq
structure Sl where
 ns : List (Nat × Nat)
 lt : List Nat
 mc : Bool
def mcl : List Nat → Bool
 | []=>false
 | t :: ts=>Nat.beq t 999999 || mcl ts
def clsB (u d : Nat) : Bool:=Nat.beq d u || Nat.beq (1000000 + d) u
theorem Z2b {d : Nat} : clsB d d = true:=by unfold clsB; rw [Nat.beq_refl]; rfl
theorem Z2c {d : Nat} : clsB (1000000 + d) d = true:=by unfold clsB; rw [Nat.beq_refl,Bool.or_true]
def cvB : Op → Bool
 | .call { callee:=.value _,.. }=>true
 | _=>false
def avB : Op → Bool
 | .buildSlice _ _ _=>true
 | .call { callee:=.builtin .append,.. }=>true
 | _=>false
def mvB (op : Op) : Bool:=cvB op || avB op
theorem Y2r {op : Op} (h : mvB op = true) : cvB op = true ∨ avB op = true:=by unfold mvB at h; simpa using h
theorem Y7w {op : Op} (h : mvB op = false) : cvB op = false ∧ avB op = false:=by unfold mvB at h; simpa using h
def nre (v u : V) : Prop:=∀ id off id' off',v = .ref id off → u = .ref id' off' → id ≠ id'
def sepC (v : V) (s : St) : List Nat → Prop
 | []=>True
 | t :: ts=>nre v (s.get t) ∧ sepC v s ts
def sepO (lt : List Nat) (op : Op) (s : St) : Prop :=
 match op with
 | .store _ a _=>sepC (s.ev a) s lt
 | _=>True
def mutO (P : Program) (lt : List Nat) (o : Oper) (s : St) (K : V → List Ob → Prop) : Prop :=
 ∃ (js : List Nat) (v : V) (H' : List Ob),mvB o.op = true ∧ (∀ ρ' : Operand → V,(∀ x ∈ o.op.operands,ρ' x = s.ev x) → ∀ (E : Env) (a : Act) (w : World) (κ : KM) (S : BS) (uss : List (List Nat)),Sees E s.hp ρ' a w κ S uss → VOk P E o a w κ S v H') ∧
  (∀ i,i ∉ js → ∀ ob,s.hp[i]? = some ob → H'[i]? = some ob) ∧ (∀ t,1000000 + t ∈ lt → ∀ id off,s.get t = .ref id off → id ∉ js) ∧ K v H'
def wpO (P : Program) (sl : Sl) (o : Oper) (s : St) (K : St → Prop) : Prop:=((sl.mc && avB o.op) = false ∧ sepO sl.lt o.op s ∧ wpS P (slt sl.ns o.op o.dst) o.op s.ev s.hp fun v H=>K { (s.put o.dst v) with hp:=H }) ∨ (sl.mc = true ∧ mutO P sl.lt o s fun v H=>K { (s.put o.dst v) with hp:=H })
theorem X5x {P : Program} {sl : Sl} {o : Oper} {s : St} {K : St → Prop} (h : mvB o.op = false ∨ sl.mc = false) : wpO P sl o s K ↔ sepO sl.lt o.op s ∧ wpS P (slt sl.ns o.op o.dst) o.op s.ev s.hp fun v H=>K { (s.put o.dst v) with hp:=H }:=by
 constructor
 ·rintro (q | ⟨q1,js,v,H',q2,_⟩)
  ·exact q.2
  ·rcases h with h | h
   ·rw [q2] at h; cases h
   ·rw [q1] at h; cases h
 ·intro q
  refine .inl ⟨?_,q⟩
  rcases h with h | h
  ·rw [(Y7w h).2,Bool.and_false]
  ·rw [h,Bool.false_and]
section
variable {P : Program} {E : Env} {sl : Sl} {s : St} {o : Oper} {a : Act} {w : World} {K : St → Prop}
theorem Cn.sees {κ : KM} {S : BS} {uss : List (List Nat)} (h : Cn E s a w κ S uss) : Sees E s.hp s.ev a w κ S uss:=⟨h.toHp,h.ev⟩
theorem CN.put {κ : KM} {S : BS} {uss : List (List Nat)} (h : Cn E s a w κ S uss) (hd : ∀ t,o.dst = some t → t < E.N) {w' : World} {S' : BS} {κ' : KM} {uss' : List (List Nat)} {v : V} {x : Value} {H' : List Ob}
  (hb : Ext w w' S S' E.B E.B κ κ') (hp : Hp E H' w' κ' S' uss') (hr : Rep w' S' E.B κ' v x []) : CN E { (s.put o.dst v) with hp:=H' } (a.put o.dst x) w':=by
 refine ⟨κ',S',uss',hp, ?_, ?_, ?_⟩
 ·exact Z5z (s:=s) (N:=E.N) (fun t u ht=>Rep.ext κ κ' hb u _ [] (by simp) (h.fr t u ht)) h.sz hd hr
 ·rw [Act.defers_put]; exact h.df
 ·rw [Act.size_put]; exact h.sz
theorem St.put_eta (s : St) (d : Option Tmp) (v : V) : ({ (s.put d v) with hp:=s.hp } : St) = s.put d v:=by cases d <;> rfl
theorem Y6k (h : CN E s a w) (hd : ∀ t,o.dst = some t → t < E.N) (hq : wpO P sl o s K) :
  ∃ s',K s' ∧ ∀ (Kr : Act → World → Prop) (Q : Exit → Act → World → Prop),(∀ a' w',CN E s' a' w' → Kr a' w') → o.wp P a w Kr Q:=by
 rcases hq with hq | ⟨_,js,v,H',_,hv,_,_,hK⟩
 rotate_left
 ·obtain ⟨κ,S,uss,hc⟩:=h
  refine ⟨_,hK,fun Kr Q hKr=>hv s.ev (fun _ _=>rfl) _ _ _ _ _ _ hc.sees Kr Q ?_⟩
  intro x w' κ' S' uss' hb hp hr
  exact hKr _ _ (CN.put hc hd hb hp hr)
 obtain ⟨v,H',hK,hv⟩:=Y6j hq.2.2
 obtain ⟨κ,S,uss,hc⟩:=h
 refine ⟨_,hK,fun Kr Q hKr=>hv hc.sees Kr Q ?_⟩
 intro x w' κ' S' uss' hb hp hr
 exact hKr _ _ (CN.put hc hd hb hp hr)
end
def gdC (ops : Array Oper) (g : Option (Nat × Bool)) (s : St) (yes no : St → Prop) : Prop :=
 match g with
 | none=>yes s
 | some (j,want)=>(∃ t b,(ops[j]?).bind (·.dst) = some t ∧ s.get t = .lit (.bool b) ∧ (b = want → yes (s.put (some t) (.lit (.bool want)))) ∧ (b = !want → no (s.put (some t) (.lit (.bool !want)))))
  ∨ (∃ t,(ops[j]?).bind (·.dst) = some t ∧ s.get t = .tup [] ∧ no s)
def wpL (P : Program) (ops : Array Oper) (sl : Sl) (K : St → Prop) : List Oper → St → Prop
 | [],s=>K s
 | o :: rest,s=>gdC ops o.guard s (fun s=>wpO P sl o s (wpL P ops sl K rest)) (fun s=>wpL P ops sl K rest (s.put o.dst (.tup [])))
section
variable {P : Program} {E : Env} {sl : Sl}
def stp (P : Program) (ops : Array Oper) (sl : Sl) (o : Oper) (s : St) (K : St → Prop) : Prop :=
 gdC ops o.guard s (fun s=>wpO P sl o s K) (fun s=>K (s.put o.dst (.tup [])))
theorem X7a {ops : Array Oper} {K : St → Prop} {o : Oper} {rest : List Oper} {s : St} : wpL P ops sl K (o :: rest) s = stp P ops sl o s (wpL P ops sl K rest):=rfl
theorem Y2b {ops : Array Oper} {Q : Exit → Act → World → Prop} {K : St → Prop} {Kr : Act → World → Prop} {o : Oper} (hK : ∀ s a w,K s → CN E s a w → Kr a w) {s : St} {a : Act} {w : World}
  (hd' : ∀ t,o.dst = some t → t < E.N) (h : CN E s a w) (hq : stp P ops sl o s K) :
  if Region.wanted o (yielded ops a.tmps) then o.wp P a w Kr Q ∨ (o.asks P a w ∧ LetsOut Q) else Kr (a.put o.dst undef) w:=by
 have yes : ∀ {s : St},CN E s a w → wpO P sl o s K → o.wp P a w Kr Q:=by
  intro s h hq
  obtain ⟨s',h1,h2⟩:=Y6k h hd' hq
  exact h2 _ _ fun a' w' hc=>hK _ _ _ h1 hc
 unfold stp gdC at hq
 split at hq
 ·rename_i hg
  rw [if_pos (by simp [Region.wanted,hg])]
  exact .inl (yes h hq)
 ·rename_i j want hg
  rcases hq with hq | ⟨t,hj,ht,hn⟩
  rotate_left
  ·have hnb : yielded ops a.tmps j = none:=by
    obtain ⟨κ,S,uss,hc⟩:=h
    have hrep : Rep w S E.B κ (s.get t) (a.tmps.getD t undef) []:=hc.ev (.tmp t)
    rw [ht] at hrep
    obtain ⟨xs,hv,_⟩:=hrep
    rw [Array.getD_eq_getD_getElem?] at hv
    unfold yielded
    rw [hj]
    cases e : a.tmps[t]? with
    | none=>simp only [Option.bind_some,e]
    | some x=>rw [e] at hv; simp at hv; simp only [Option.bind_some,e,hv]
   rw [if_neg (by simp [Region.wanted,hg,hnb])]
   refine hK _ _ _ hn ?_
   obtain ⟨κ,S,uss,hc⟩:=h
   have:=CN.put hc hd' (v:=.tup []) (x:=undef) ⟨fun _ h=>h,fun _ h=>h,fun _ _ h=>h,fun _ _ h=>h,fun _ _ _=>rfl⟩ hc.toHp ⟨#[],rfl,rfl,rfl⟩
   rwa [St.put_eta] at this
  obtain ⟨t,b,hj,ht,h1,h2⟩:=hq
  have hget : a.tmps[t]? = some (.bool b):=by
   obtain ⟨κ,S,uss,hc⟩:=h
   have hrep : Rep w S E.B κ (s.get t) (a.tmps.getD t undef) []:=hc.ev (.tmp t)
   rw [ht] at hrep
   obtain ⟨_,hv,_⟩:=hrep
   rw [Array.getD_eq_getD_getElem?] at hv
   cases e : a.tmps[t]? with
   | none=>rw [e] at hv; simp [undef] at hv
   | some x=>rw [e] at hv; simp at hv; rw [hv]
  have hsay : ∀ c,b = c → CN E (s.put (some t) (.lit (.bool c))) a w:=by
   rintro c rfl
   obtain ⟨κ,S,uss,hc⟩:=h
   refine ⟨κ,S,uss,hc.toHp, ?_,hc.df,hc.sz⟩
   intro t' v hv
   rw [St.lookup_put] at hv
   by_cases e : t' = t
   ·subst e
    rw [if_pos rfl] at hv
    obtain rfl:=Option.some.inj hv
    refine ⟨rfl, ?_,rfl⟩
    rw [Array.getD_eq_getD_getElem?,hget]; rfl
   ·rw [if_neg e] at hv
    exact hc.fr t' v hv
  have hy : yielded ops a.tmps j = some b:=by
   unfold yielded
   rw [hj]; simp [hget]
  by_cases hb : b = want
  ·subst hb
   rw [if_pos (by simp [Region.wanted,hg,hy])]
   exact .inl (yes (hsay b rfl) (h1 rfl))
  ·have hb' : b = !want:=by cases b <;> cases want <;> simp_all
   rw [if_neg (by simp [Region.wanted,hg,hy,hb])]
   refine hK _ _ _ (h2 hb') ?_
   obtain ⟨κ,S,uss,hc⟩:=hsay _ hb'
   have:=CN.put hc hd' (v:=.tup []) (x:=undef) ⟨fun _ h=>h,fun _ h=>h,fun _ _ h=>h,fun _ _ h=>h,fun _ _ _=>rfl⟩ hc.toHp ⟨#[],rfl,rfl,rfl⟩
   rwa [St.put_eta] at this
theorem Y1V {ops : Array Oper} {Q : Exit → Act → World → Prop} {K : St → Prop} (hK : ∀ s a w,K s → CN E s a w → Q .normal a w) : ∀ {l : List Oper} {s : St} {a : Act} {w : World},
  (∀ o ∈ l,∀ t,o.dst = some t → t < E.N) → CN E s a w → wpL P ops sl K l s → wpList P ops Q l a w
 | [],s,a,w,_,h,hq=>hK s a w hq h
 | o :: rest,s,a,w,hd,h,hq=>by
  unfold wpList
  rw [X7a] at hq
  exact Y2b (fun s a w h hc=>Y1V hK (fun o ho=>hd o (by simp [ho])) hc h) (hd o (by simp)) h hq
end
def qtC : Op → Bool
 | .move _ | .assign _ | .pick .. | .build .. | .load .. | .nilCheck _ | .binOp .. | .unOp .. | .convert .. | .makeFunc .. | .slice _ _ _ _ none | .fieldAddr .. | .field .. | .indexAddr .. | .index .. | .extract ..=>true
 | .call { callee:=.builtin .len,.. }=>true
 | .call { callee:=.builtin .min,.. }=>true
 | .call { callee:=.builtin .max,.. }=>true
 | _=>false
def qtB (op : Op) : Bool:=qtC op || match op with | .buildSlice _ 0 _=>true | _=>false
def ldB : Op → Bool
 | .load ..=>true
 | _=>false
def chB : Op → Bool
 | .store ..=>true
 | .call { callee:=.builtin .append,.. }=>true
 | _=>false
section
variable {P : Program} {ρ ρ' : Operand → V} {H : List Ob}
theorem X6Z {op : Op} (h : qtC op = true) (K : V → List Ob → Prop) : wpV P op ρ H K = qC P op ρ H (fun v=>K v H):=by
 unfold qtC at h
 split at h <;> first | rfl | cases h
theorem Y7L {t : TypeId} {cs : List V} {K : V → Prop} (h : ldC P t cs K) : ∃ v,K v ∧ ∀ K' : V → Prop,K' v → ldC P t cs K':=by
 obtain ⟨n,h1,h2,h3,⟨h4,h5⟩ | ⟨h4,c,h5,h6⟩⟩:=h
 ·exact ⟨_,h5,fun K' h=>⟨n,h1,h2,h3,.inl ⟨h4,h⟩⟩⟩
 ·exact ⟨c,h6,fun K' h=>⟨n,h1,h2,h3,.inr ⟨h4,c,h5,h⟩⟩⟩
theorem X6U {n : Nat} {lo hi : Option V} {K : Nat → Nat → Prop} (h : bndC n lo hi K) : ∃ l h,K l h ∧ ∀ K' : Nat → Nat → Prop,K' l h → bndC n lo hi K':=by
 obtain ⟨l,h,h1,h2,h3,h4,h5,h6⟩:=h
 exact ⟨_,_,h6,fun K' h'=>⟨l,h,h1,h2,h3,h4,h5,h'⟩⟩
theorem Z0n {op : Op} (hq : qtC op = true) {K : V → Prop} (h : qC P op ρ H K) : ∃ v,K v ∧ ∀ K' : V → Prop,K' v → qC P op ρ H K':=by
 unfold qtC at hq
 split at hq
 case h_1 x=>exact ⟨_,h,fun _ h=>h⟩
 case h_2 x=>exact ⟨_,h,fun _ h=>h⟩
 case h_3=>obtain ⟨b,h1,h2⟩:=h; exact ⟨_,h2,fun K' h=>⟨b,h1,h⟩⟩
 case h_4 =>
  obtain ⟨pl,z,h1,h2,h3⟩:=h
  obtain ⟨d,h4,h5⟩:=Q5V h3
  exact ⟨_,h4,fun K' h=>⟨pl,z,h1,h2,h5 _ h⟩⟩
 case h_5 t a =>
  change ldP P t (ρ a) H K at h
  show ∃ v,K v ∧ ∀ K' : V → Prop,K' v → ldP P t (ρ a) H K'
  unfold ldP at *
  split at h
  ·exact Y7L h
  ·obtain ⟨ob,h1,h2,h3,h4⟩:=h
   obtain ⟨v,h5,h6⟩:=Y7L h4
   exact ⟨v,h5,fun K' h=>⟨ob,h1,h2,h3,h6 K' h⟩⟩
  ·exact h.elim
 case h_6 x =>
  change nilC (ρ x) K at h
  show ∃ v,K v ∧ ∀ K' : V → Prop,K' v → nilC (ρ x) K'
  unfold nilC at *
  split at h
  ·exact ⟨_,h,fun _ h=>h⟩
  ·exact ⟨_,h,fun _ h=>h⟩
  ·exact ⟨_,h,fun _ h=>h⟩
  ·exact h.elim
 case h_7 op t x y _ =>
  change binC P op t (ρ x) (nlO y (ρ y)) K at h
  show ∃ v,K v ∧ ∀ K' : V → Prop,K' v → binC P op t (ρ x) (nlO y (ρ y)) K'
  unfold binC at *
  split at h
  ·rcases h with ⟨h1,r,h2,h3⟩ | ⟨h1,h2,h4,h3⟩
   ·exact ⟨_,h3,fun _ h=>.inl ⟨h1,r,h2,h⟩⟩
   ·exact ⟨_,h3,fun _ h=>.inr ⟨h1,h2,h4,h⟩⟩
  ·obtain ⟨h1,⟨h2,h3⟩ | ⟨h2,h3⟩⟩:=h
   ·exact ⟨_,h3,fun _ h=>⟨h1,.inl ⟨h2,h⟩⟩⟩
   ·exact ⟨_,h3,fun _ h=>⟨h1,.inr ⟨h2,h⟩⟩⟩
  ·obtain ⟨h1,r,h2,h3⟩:=h; exact ⟨_,h3,fun _ h=>⟨h1,r,h2,h⟩⟩
  ·obtain ⟨h1,⟨h2,h3⟩ | ⟨h2,h3⟩⟩:=h
   ·exact ⟨_,h3,fun _ h=>⟨h1,.inl ⟨h2,h⟩⟩⟩
   ·exact ⟨_,h3,fun _ h=>⟨h1,.inr ⟨h2,h⟩⟩⟩
  ·obtain ⟨h1,⟨h2,h3⟩ | ⟨h2,h3⟩⟩:=h
   ·exact ⟨_,h3,fun _ h=>⟨h1,.inl ⟨h2,h⟩⟩⟩
   ·exact ⟨_,h3,fun _ h=>⟨h1,.inr ⟨h2,h⟩⟩⟩
  ·obtain ⟨h1,⟨h2,h3⟩ | ⟨h2,h3⟩⟩:=h
   ·exact ⟨_,h3,fun _ h=>⟨h1,.inl ⟨h2,h⟩⟩⟩
   ·exact ⟨_,h3,fun _ h=>⟨h1,.inr ⟨h2,h⟩⟩⟩
  ·obtain ⟨h1,⟨h2,h3⟩ | ⟨h2,h3⟩⟩:=h
   ·exact ⟨_,h3,fun _ h=>⟨h1,.inl ⟨h2,h⟩⟩⟩
   ·exact ⟨_,h3,fun _ h=>⟨h1,.inr ⟨h2,h⟩⟩⟩
  ·obtain ⟨h1,⟨h2,h3⟩ | ⟨h2,h3⟩⟩:=h
   ·exact ⟨_,h3,fun _ h=>⟨h1,.inl ⟨h2,h⟩⟩⟩
   ·exact ⟨_,h3,fun _ h=>⟨h1,.inr ⟨h2,h⟩⟩⟩
  ·obtain ⟨h1,⟨h2,h3⟩ | ⟨h2,h3⟩⟩:=h
   ·exact ⟨_,h3,fun _ h=>⟨h1,.inl ⟨h2,h⟩⟩⟩
   ·exact ⟨_,h3,fun _ h=>⟨h1,.inr ⟨h2,h⟩⟩⟩
  ·exact h.elim
 case h_8 op _ x =>
  change unC op (ρ x) K at h
  show ∃ v,K v ∧ ∀ K' : V → Prop,K' v → unC op (ρ x) K'
  unfold unC at *
  split at h
  ·exact ⟨_,h,fun _ h=>h⟩
  ·exact ⟨_,h,fun _ h=>h⟩
  ·exact h.elim
 case h_9 a b x =>
  change cvC P a b (ρ x) K at h
  show ∃ v,K v ∧ ∀ K' : V → Prop,K' v → cvC P a b (ρ x) K'
  unfold cvC at *
  split at h
  ·obtain ⟨k0,k1,h1,h2,h3⟩:=h; exact ⟨_,h3,fun _ h=>⟨k0,k1,h1,h2,h⟩⟩
  ·obtain ⟨h1,h2,h3⟩:=h; exact ⟨_,h3,fun _ h=>⟨h1,h2,h⟩⟩
  ·exact h.elim
 case h_10=>exact ⟨_,h,fun _ h=>h⟩
 case h_11 t x lo hi =>
  change slcC P t (ρ x) (lo.map ρ) (hi.map ρ) K at h
  show ∃ v,K v ∧ ∀ K' : V → Prop,K' v → slcC P t (ρ x) (lo.map ρ) (hi.map ρ) K'
  unfold slcC at *
  split at h
  ·obtain ⟨e,h1,h2⟩:=h
   obtain ⟨l,h,h3,h4⟩:=X6U h2
   exact ⟨_,h3,fun _ h=>⟨e,h1,h4 _ h⟩⟩
  ·obtain ⟨e,h1,h2⟩:=h
   obtain ⟨l,h,⟨h5,h3⟩ | ⟨h5,h6,h3⟩ | ⟨h5,h6,h7,h8,h3⟩,h4⟩:=X6U h2
   ·exact ⟨_,h3,fun _ h=>⟨e,h1,h4 _ (.inl ⟨h5,h⟩)⟩⟩
   ·exact ⟨_,h3,fun _ h=>⟨e,h1,h4 _ (.inr (.inl ⟨h5,h6,h⟩))⟩⟩
   ·exact ⟨_,h3,fun _ h=>⟨e,h1,h4 _ (.inr (.inr ⟨h5,h6,h7,h8,h⟩))⟩⟩
  ·obtain ⟨e,sz,h1,h2⟩:=h
   obtain ⟨l,h,h3,h4⟩:=X6U h2
   exact ⟨_,h3,fun _ h=>⟨e,sz,h1,h4 _ h⟩⟩
  ·obtain ⟨h1,h2⟩:=h
   obtain ⟨l,h,h3,h4⟩:=X6U h2
   exact ⟨_,h3,fun _ h=>⟨h1,h4 _ h⟩⟩
  ·exact h.elim
 case h_12 t x f =>
  change faC P t (ρ x) f K at h
  show ∃ v,K v ∧ ∀ K' : V → Prop,K' v → faC P t (ρ x) f K'
  unfold faC at *
  obtain ⟨off,sz,a,h1,h2,h3⟩:=h
  split at h3
  ·exact ⟨_,h3.2,fun _ h=>⟨off,sz,a,h1,h2,h3.1,h⟩⟩
  ·exact ⟨_,h3,fun _ h=>⟨off,sz,a,h1,h2,h⟩⟩
  ·exact h3.elim
 case h_13 t x f =>
  change fdC P t (ρ x) f K at h
  show ∃ v,K v ∧ ∀ K' : V → Prop,K' v → fdC P t (ρ x) f K'
  unfold fdC at *
  obtain ⟨off,sz,a,h1,h3⟩:=h
  split at h3
  ·obtain ⟨h4,h5,h6⟩ | ⟨h4,c,h5,h6⟩:=h3
   ·exact ⟨_,h6,fun _ h=>⟨off,sz,a,h1,.inl ⟨h4,h5,h⟩⟩⟩
   ·exact ⟨_,h6,fun _ h=>⟨off,sz,a,h1,.inr ⟨h4,c,h5,h⟩⟩⟩
  ·exact h3.elim
 case h_14 t x i =>
  change iaC P t (ρ x) (ρ i) K at h
  show ∃ v,K v ∧ ∀ K' : V → Prop,K' v → iaC P t (ρ x) (ρ i) K'
  unfold iaC at *
  obtain ⟨k,j,h1,h2,h3⟩:=h
  split at h3
  ·obtain ⟨e,h4,h5,h6⟩:=h3; exact ⟨_,h6,fun _ h=>⟨k,j,h1,h2,e,h4,h5,h⟩⟩
  ·obtain ⟨e,h4,h5,h6⟩:=h3; exact ⟨_,h6,fun _ h=>⟨k,j,h1,h2,e,h4,h5,h⟩⟩
  ·exact h3.elim
 case h_15 t x i =>
  change ixC P t (ρ x) (ρ i) K at h
  show ∃ v,K v ∧ ∀ K' : V → Prop,K' v → ixC P t (ρ x) (ρ i) K'
  unfold ixC at *
  obtain ⟨k,j,h1,h2,h3⟩:=h
  split at h3
  ·obtain ⟨h4,b,h5,h6⟩:=h3; exact ⟨_,h6,fun _ h=>⟨k,j,h1,h2,h4,b,h5,h⟩⟩
  ·exact h3.elim
 case h_16 x i =>
  change exC (ρ x) i K at h
  show ∃ v,K v ∧ ∀ K' : V → Prop,K' v → exC (ρ x) i K'
  unfold exC at *
  split at h
  ·obtain ⟨c,h1,h2⟩:=h; exact ⟨c,h2,fun _ h=>⟨c,h1,h⟩⟩
  ·exact h.elim
 case h_17 args ts =>
  change ∃ x t,args = #[x] ∧ ts = #[t] ∧ lenC P t (ρ x) K at h
  show ∃ v,K v ∧ ∀ K' : V → Prop,K' v → ∃ x t,args = #[x] ∧ ts = #[t] ∧ lenC P t (ρ x) K'
  obtain ⟨x,t,h1,h2,h3⟩:=h
  unfold lenC at *
  split at h3
  ·rename_i e; exact ⟨_,h3.2,fun _ h=>⟨x,t,h1,h2,by rw [e]; exact ⟨h3.1,h⟩⟩⟩
  ·rename_i e; exact ⟨_,h3.2,fun _ h=>⟨x,t,h1,h2,by rw [e]; exact ⟨h3.1,h⟩⟩⟩
  ·rename_i e; exact ⟨_,h3.2,fun _ h=>⟨x,t,h1,h2,by rw [e]; exact ⟨h3.1,h⟩⟩⟩
  ·rename_i e; exact ⟨_,h3.2,fun _ h=>⟨x,t,h1,h2,by rw [e]; exact ⟨h3.1,h⟩⟩⟩
  ·exact h3.elim
 case h_18 args ts =>
  change ∃ x y,args = #[x,y] ∧ mmC mnI (ρ x) (ρ y) K at h
  show ∃ v,K v ∧ ∀ K' : V → Prop,K' v → ∃ x y,args = #[x,y] ∧ mmC mnI (ρ x) (ρ y) K'
  obtain ⟨x,y,h1,h3⟩:=h
  unfold mmC at *
  split at h3
  ·rename_i e1 e2; exact ⟨_,h3,fun _ h=>⟨x,y,h1,by rw [e1,e2]; exact h⟩⟩
  ·exact h3.elim
 case h_19 args ts =>
  change ∃ x y,args = #[x,y] ∧ mmC mxI (ρ x) (ρ y) K at h
  show ∃ v,K v ∧ ∀ K' : V → Prop,K' v → ∃ x y,args = #[x,y] ∧ mmC mxI (ρ x) (ρ y) K'
  obtain ⟨x,y,h1,h3⟩:=h
  unfold mmC at *
  split at h3
  ·rename_i e1 e2; exact ⟨_,h3,fun _ h=>⟨x,y,h1,by rw [e1,e2]; exact h⟩⟩
  ·exact h3.elim
 case h_20=>cases hq
theorem Z1o {op : Op} (hq : qtC op = true) (hl : ldB op = false) {K : V → Prop} (H' : List Ob) (h : qC P op ρ H K) : qC P op ρ H' K:=by
 unfold qtC at hq
 split at hq
 case h_5=>cases hl
 case h_20=>cases hq
 all_goals exact h
def Lst (op : Op) (ρ : Operand → V) (H H' : List Ob) : Prop:=∀ t a,op = .load t a → ∀ id off,ρ a = .ref id off → ∀ ob,H[id]? = some ob → ob.st = .own ∨ ob.st = .frz → H'[id]? = some ob
theorem Z1n {op : Op} (hq : qtC op = true) {K : V → Prop} {H' : List Ob} (hs : Lst op ρ H H') (h : qC P op ρ H K) : qC P op ρ H' K:=by
 cases hl : ldB op
 ·exact Z1o hq hl _ h
 ·unfold ldB at hl
  split at hl
  ·rename_i t a
   change ldP P t (ρ a) H K at h
   show ldP P t (ρ a) H' K
   unfold ldP at *
   split at h
   ·exact h
   ·rename_i hra
    obtain ⟨ob,h1,h2,h3⟩:=h
    exact ⟨ob,hs t a rfl _ _ hra ob h1 h2,h2,h3⟩
   ·exact h.elim
  ·cases hl
theorem Y2l {op : Op} (he : ∀ x ∈ op.operands,ρ x = ρ' x) {K : V → Prop} (h : qC P op ρ H K) : qC P op ρ' H K:=by
 have pairs : ∀ ps : Array (Nat × Operand),(∀ x ∈ ps.toList.map (·.2),ρ x = ρ' x) → ps.toList.map (fun p=>(p.1,ρ p.2)) = ps.toList.map (fun p=>(p.1,ρ' p.2)):=fun ps hp =>
  List.map_congr_left fun p hm=>by rw [hp p.2 (List.mem_map.2 ⟨p,hm,rfl⟩)]
 unfold qC at *
 split at h
 case h_4 t ps=>rw [← pairs ps fun x hx=>he x (by simpa [Op.operands] using hx)]; exact h
 case h_10 f fs cs =>
  rw [← List.map_congr_left (l:=fs.toList) (f:=ρ) (g:=ρ') fun x hx=>he x (by simp [Op.operands]; exact .inl (by simpa using hx)),← List.map_congr_left (l:=cs.toList) (f:=ρ) (g:=ρ') fun x hx=>he x (by simp [Op.operands]; exact .inr (by simpa using hx))]
  exact h
 case h_11 t x lo hi =>
  have e1 : lo.map ρ = lo.map ρ':=by cases lo <;> simp_all [Op.operands]
  have e2 : hi.map ρ = hi.map ρ':=by cases hi <;> simp_all [Op.operands]
  rw [← e1,← e2,← he x (by simp [Op.operands])]; exact h
 case h_17 args ts =>
  obtain ⟨x,t,rfl,rfl,h⟩:=h
  exact ⟨x,t,rfl,rfl,by rw [← he x (by simp [Op.operands,Call.operands])]; exact h⟩
 case h_18 args ts =>
  obtain ⟨x,y,rfl,h⟩:=h
  exact ⟨x,y,rfl,by rw [← he x (by simp [Op.operands,Call.operands]),← he y (by simp [Op.operands,Call.operands])]; exact h⟩
 case h_19 args ts =>
  obtain ⟨x,y,rfl,h⟩:=h
  exact ⟨x,y,rfl,by rw [← he x (by simp [Op.operands,Call.operands]),← he y (by simp [Op.operands,Call.operands])]; exact h⟩
 case h_20 f args ts =>
  rw [← List.map_congr_left (l:=args.toList) (f:=ρ) (g:=ρ') fun x hx=>he x (by simp [Op.operands,Call.operands]; exact .inr (by simpa using hx)),← he f (by simp [Op.operands,Call.operands])]
  exact h
 case h_21=>exact h.elim
 all_goals (simp only [Op.operands] at he; simp_all)
theorem Y5q {op : Op} (he : ∀ x ∈ op.operands,ρ x = ρ' x) {K : V → List Ob → Prop} (h : wpV P op ρ H K) : wpV P op ρ' H K:=by
 have pairs : ∀ ps : Array (Nat × Operand),(∀ x ∈ ps.toList.map (·.2),ρ x = ρ' x) → ps.toList.map (fun p=>(p.1,ρ p.2)) = ps.toList.map (fun p=>(p.1,ρ' p.2)):=fun ps hp =>
  List.map_congr_left fun p hm=>by rw [hp p.2 (List.mem_map.2 ⟨p,hm,rfl⟩)]
 unfold wpV at *
 split at h
 case h_1=>exact h
 case h_2 t x=>rw [← he x (by simp [Op.operands])]; exact h
 case h_3 t n ps=>rw [← pairs ps fun x hx=>he x (by simpa [Op.operands] using hx)]; exact h
 case h_4 t l c=>rw [← he l (by simp [Op.operands]),← he c (by simp [Op.operands])]; exact h
 case h_5 t l c=>rw [← he l (by simp [Op.operands]),← he c (by simp [Op.operands])]; exact h
 case h_6 args ts =>
  obtain ⟨x,y,t,rfl,rfl,h⟩:=h
  exact ⟨x,y,t,rfl,rfl,by rw [← he x (by simp [Op.operands,Call.operands]),← he y (by simp [Op.operands,Call.operands])]; exact h⟩
 case h_7 f args ts =>
  rw [← List.map_congr_left (l:=args.toList) (f:=ρ) (g:=ρ') fun x hx=>he x (by simp [Op.operands,Call.operands]; exact .inr (by simpa using hx)),← he f (by simp [Op.operands,Call.operands])]
  exact h
 case h_8=>exact Y2l he h
theorem Y9a {op : Op} (hq : qtB op = true) {K : V → List Ob → Prop} (h : wpV P op ρ H K) : ∃ v,K v H ∧ ∀ (ρ' : Operand → V) (H' : List Ob) (K' : V → List Ob → Prop),
  (∀ x ∈ op.operands,ρ x = ρ' x) → Lst op ρ H H' → K' v H' → wpV P op ρ' H' K':=by
 cases hc : qtC op with
 | true =>
  rw [X6Z hc] at h
  obtain ⟨v,h1,h2⟩:=Z0n hc h
  refine ⟨v,h1,fun ρ' H' K' he hs hk=>?_⟩
  rw [X6Z hc]
  exact Y2l he (Z1n hc hs (h2 _ hk))
 | false =>
  unfold qtB at hq
  rw [hc,Bool.false_or] at hq
  split at hq
  ·rename_i t ps
   change bslC P t 0 (ps.toList.map fun p=>(p.1,ρ p.2)) H K at h
   obtain ⟨e,sz,z,h1,h2,h3,h4,h5,h6⟩:=h
   rw [if_pos rfl] at h6
   refine ⟨.emp,h6.2,fun ρ' H' K' he hs hk=>⟨e,sz,z,h1,h2,h3,h4,h5, ?_⟩⟩
   rw [if_pos rfl]
   refine ⟨?_,hk⟩
   have : ps.toList = []:=by simpa using h6.1
   rw [this]; rfl
  ·cases hq
theorem Y6b {f : V} {vs : List V} {K K' : V → Prop} (hK : ∀ v,K v → K' v) (h : callC P f vs H K) : callC P f vs H K':=by
 unfold callC at *
 split at h
 ·obtain ⟨args,r,h1,h2,h3⟩:=h; exact ⟨args,r,h1,h2,hK _ h3⟩
 ·exact h.elim
theorem Y4h {op : Op} {K K' : V → List Ob → Prop} (hK : ∀ v H2,(chB op = false → ∃ H',H2 = H ++ H') → (∀ t a x,op = .store t a x → ∃ id off ob',ρ a = .ref id off ∧ H2 = H.set id ob') → K v H2 → K' v H2) (h : wpV P op ρ H K) : wpV P op ρ H K':=by
 have h0 : ∃ H',H = H ++ H':=⟨[],by simp⟩
 by_cases hq : qtC op = true
 ·rw [X6Z hq] at *
  obtain ⟨v,h1,h2⟩:=Z0n hq h
  exact h2 _ (hK _ _ (fun _=>h0) (fun t a x e=>by rw [e] at hq; cases hq) h1)
 ·unfold wpV at *
  split at h
  case h_1 t=>obtain ⟨z,h1,h2⟩:=h; exact ⟨z,h1,hK _ _ (fun _=>⟨_,rfl⟩) (by intro _ _ _ h; cases h) h2⟩
  case h_2 t x=>obtain ⟨z,h1,h2⟩:=h; exact ⟨z,h1,hK _ _ (fun _=>⟨_,rfl⟩) (by intro _ _ _ h; cases h) h2⟩
  case h_3 t n ps =>
   unfold bslC at *
   obtain ⟨e,sz,z,h1,h2,h3,h4,h5,h6⟩:=h
   refine ⟨e,sz,z,h1,h2,h3,h4,h5, ?_⟩
   split at h6
   ·rw [if_pos ‹_›]; exact ⟨h6.1,hK _ _ (fun _=>h0) (by intro _ _ _ h; cases h) h6.2⟩
   ·rw [if_neg ‹_›]
    obtain ⟨d,h7,h8⟩:=Q5V h6
    refine h8 _ ?_
    split at h7
    ·rw [if_pos ‹_›]; exact hK _ _ (fun _=>h0) (by intro _ _ _ h; cases h) h7
    ·rw [if_neg ‹_›]; exact hK _ _ (fun _=>⟨_,rfl⟩) (by intro _ _ _ h; cases h) h7
  case h_4 t l c =>
   unfold mkC at *
   obtain ⟨e,sz,by',z,h1,h2,h3,h4,h5,k,k',n,m,h6,h7,h8,h9,h10,h11⟩:=h
   exact ⟨e,sz,by',z,h1,h2,h3,h4,h5,k,k',n,m,h6,h7,h8,h9,h10,hK _ _ (fun _=>⟨_,rfl⟩) (by intro _ _ _ h; cases h) h11⟩
  case h_5 t l c =>
   unfold stC at *
   split at h
   ·obtain ⟨n,cs,ob,h1,h2,h3,h4,h5,h6,h7,h8⟩:=h
    exact ⟨n,cs,ob,h1,h2,h3,h4,h5,h6,h7,hK _ _ (by intro h; cases h) (fun _ _ _ e=>by cases e; exact ⟨_,_,_,‹_›,rfl⟩) h8⟩
   ·exact h.elim
  case h_6 args ts =>
   obtain ⟨x,y,t,h1,h2,h⟩:=h
   refine ⟨x,y,t,h1,h2, ?_⟩
   unfold appC at *
   obtain ⟨e,sz,by',z,g1,g2,g3,g4,g5,g6,m,news,g7,g8,h⟩:=h
   refine ⟨e,sz,by',z,g1,g2,g3,g4,g5,g6,m,news,g7,g8, ?_⟩
   split at h
   ·exact ⟨h.1,hK _ _ (fun _=>⟨_,rfl⟩) (by intro _ _ _ h; cases h) h.2⟩
   ·obtain ⟨e1,e2,ob,e3,e4,e5,e6,e7⟩:=h
    exact ⟨e1,e2,ob,e3,e4,e5,e6,hK _ _ (by intro h; cases h) (by intro _ _ _ h; cases h) e7⟩
   ·exact h.elim
  case h_7 f args ts =>
   refine h.imp (Y6b fun v h=>hK _ _ (fun _=>h0) (by intro _ _ _ h; cases h) h) ?_
   intro h
   unfold callO at *
   split at h
   ·obtain ⟨r,objs,h1,h0,h3⟩:=h; exact ⟨r,objs,h1,h0,hK _ _ (fun _=>⟨_,rfl⟩) (by intro _ _ _ h; cases h) h3⟩
   ·exact h.elim
  case h_8 op _ _ _ _ _ _ _ =>
   exfalso
   unfold qC at h
   split at h <;> first | exact h.elim | exact hq rfl | skip
   all_goals simp_all
end
def Sq (s s' : St) : Prop:=s.hp = s'.hp ∧ ∀ t,s.tm.lookup t = s'.tm.lookup t
def Rsp (K : St → Prop) : Prop:=∀ s s',Sq s s' → K s → K s'
section
variable {P : Program} {ops : Array Oper} {sl : Sl} {K : St → Prop}
theorem Sq.refl (s : St) : Sq s s:=⟨rfl,fun _=>rfl⟩
theorem Sq.symm {s s' : St} (h : Sq s s') : Sq s' s:=⟨h.1.symm,fun t=>(h.2 t).symm⟩
theorem Sq.get {s s' : St} (h : Sq s s') (t : Nat) : s.get t = s'.get t:=by unfold St.get; rw [h.2 t]
theorem Sq.ev {s s' : St} (h : Sq s s') : s.ev = s'.ev:=by
 funext x
 unfold St.ev
 split <;> first | exact h.get _ | rfl
theorem Sq.put {s s' : St} (h : Sq s s') (d : Option Tmp) (v : V) : Sq (s.put d v) (s'.put d v):=by
 cases d with
 | none=>exact h
 | some d =>
  refine ⟨h.1,fun t=>?_⟩
  rw [St.lookup_put,St.lookup_put,h.2 t]
theorem Sq.withHp {s s' : St} (h : Sq s s') (H : List Ob) : Sq { s with hp:=H } { s' with hp:=H }:=⟨rfl,h.2⟩
theorem Sq.put_put (s : St) {d d' : Option Tmp} (v v' : V) (hne : ∀ t,d = some t → d' ≠ some t) : Sq ((s.put d v).put d' v') ((s.put d' v').put d v):=by
 cases d with
 | none=>cases d' <;> exact Sq.refl _
 | some d =>
  cases d' with
  | none=>exact Sq.refl _
  | some d' =>
   refine ⟨rfl,fun t=>?_⟩
   have : d' ≠ d:=fun e=>hne d rfl (by rw [e])
   simp only [St.lookup_put]
   by_cases e1 : t = d
   ·subst e1; simp [this.symm]
   ·simp [e1]
theorem Sq.put_get {s : St} {t : Nat} {x : Value} (h : s.get t = .lit x) : Sq (s.put (some t) (.lit x)) s:=by
 refine ⟨rfl,fun t'=>?_⟩
 rw [St.lookup_put]
 by_cases e : t' = t
 ·subst e
  rw [if_pos rfl]
  unfold St.get at h
  cases hl : s.tm.lookup t' with
  | none=>rw [hl] at h; cases h
  | some u=>rw [hl] at h; rw [show u = V.lit x from h]
 ·rw [if_neg e]
theorem St.put_hp (s : St) (d : Option Tmp) (v : V) (H : List Ob) : ({ (s.put d v) with hp:=H } : St) = ({ s with hp:=H } : St).put d v:=by cases d <;> rfl
theorem St.ev_hp (s : St) (H : List Ob) : ({ s with hp:=H } : St).ev = s.ev:=by
 funext x
 unfold St.ev
 split <;> rfl
def Grw (H H2 : List Ob) : Prop:=(∃ H',H2 = H ++ H') ∨ ∃ id ob,isRes H[id]? ∧ H2 = H.set id ob
theorem Y0v {op : Op} {ρ : Operand → V} {id : Nat} {H : List Ob} {K : V → List Ob → Prop} (h : slC P op ρ id H K) : isRes H[id]? ∧ ∃ v ob,ob.st = .own ∧ K v (H.set id ob) ∧
  ∀ (ρ' : Operand → V) (H' : List Ob) (K' : V → List Ob → Prop),(∀ x ∈ op.operands,ρ x = ρ' x) → isRes H'[id]? → K' v (H'.set id ob) → slC P op ρ' id H' K':=by
 obtain ⟨h0,h⟩:=h
 refine ⟨h0, ?_⟩
 split at h
 ·obtain ⟨z,h1,h2⟩:=h
  exact ⟨_,_,rfl,h2,fun ρ' H' K' _ hr hk=>⟨hr,z,h1,hk⟩⟩
 ·rename_i t l c
  obtain ⟨e,sz,by',z,h1,h2,h3,h4,h5,k,k',n,m,h6,h7,h8,h9,h10,h11⟩:=h
  exact ⟨_,_,rfl,h11,fun ρ' H' K' he hr hk=>⟨hr,e,sz,by',z,h1,h2,h3,h4,h5,k,k',n,m,by rw [← he l (by simp [Op.operands])]; exact h6,by rw [← he c (by simp [Op.operands])]; exact h7,h8,h9,h10,hk⟩⟩
 ·rename_i args ts
  obtain ⟨x,y,t,rfl,rfl,h1,e,sz,by',z,g1,g2,g3,g4,g5,g6,m,news,g7,g8,g9,g10⟩:=h
  exact ⟨_,_,rfl,g10,fun ρ' H' K' he hr hk=>⟨hr,x,y,t,rfl,rfl,by rw [← he x (by simp [Op.operands,Call.operands])]; exact h1,e,sz,by',z,g1,g2,g3,g4,g5,g6,m,news,by rw [← he y (by simp [Op.operands,Call.operands])]; exact g7,g8,g9,hk⟩⟩
 ·exact h.elim
theorem Y0l {n : Option Nat} {op : Op} {ρ : Operand → V} {H : List Ob} {K K' : V → List Ob → Prop} (hK : ∀ v H2,(chB op = false ∨ n.isSome = true → Grw H H2) → (∀ t a x,op = .store t a x → ∃ id off ob',ρ a = .ref id off ∧ H2 = H.set id ob') → K v H2 → K' v H2) (h : wpS P n op ρ H K) : wpS P n op ρ H K':=by
 cases n with
 | none=>exact Y4h (fun v H2 hg hst hk=>hK v H2 (fun e=>.inl (hg (e.resolve_right (by simp)))) hst hk) h
 | some id =>
  obtain ⟨h1,v,ob,h2,h3,h4⟩:=Y0v h
  exact h4 _ _ _ (fun _ _=>rfl) h1 (hK _ _ (fun _=>.inr ⟨id,ob,h1,rfl⟩) (fun t a x e=>by have:=h.2; rw [e] at this; exact this.elim) h3)
theorem Y5r {n : Option Nat} {op : Op} {ρ ρ' : Operand → V} {H : List Ob} (he : ∀ x ∈ op.operands,ρ x = ρ' x) {K : V → List Ob → Prop} (h : wpS P n op ρ H K) : wpS P n op ρ' H K:=by
 cases n with
 | none=>exact Y5q he h
 | some id =>
  obtain ⟨h1,v,ob,h2,h3,h4⟩:=Y0v h
  exact h4 _ _ _ he h1 h3
theorem Grw.lst {op : Op} {ρ : Operand → V} {H H2 : List Ob} (hg : Grw H H2) : Lst op ρ H H2:=by
 intro t a e id' off' hra ob' h1 h2
 rcases hg with ⟨H',rfl⟩ | ⟨id,ob,hr,rfl⟩
 ·rw [List.getElem?_append_left (List.getElem?_eq_some_iff.1 h1).1]; exact h1
 ·rw [List.getElem?_set,if_neg]
  ·exact h1
  ·rintro rfl
   obtain ⟨ob0,e1,e2⟩:=hr
   rw [h1] at e1
   obtain rfl:=Option.some.inj e1
   rw [e2] at h2
   rcases h2 with h | h <;> cases h
theorem Y2e {ns : List (Nat × Nat)} {op : Op} {d : Option Tmp} (h : qtB op = true) : slt ns op d = none:=by
 unfold slt
 split
 ·cases h
 ·cases h
 ·cases h
 ·rfl
theorem X4Q {v v' : V} {s s' : St} : ∀ {lt : List Nat},v = v' → (∀ t ∈ lt,s.get t = s'.get t) → sepC v s lt → sepC v' s' lt
 | [],_,_,_=>trivial
 | t :: ts,h1,h2,h=>⟨by rw [← h1,← h2 t (by simp)]; exact h.1,X4Q h1 (fun t ht=>h2 t (by simp [ht])) h.2⟩
theorem X2K {v : V} {s : St} : ∀ {lt : List Nat} {t : Nat},t ∈ lt → sepC v s lt → nre v (s.get t)
 | u :: ts,t,ht,h=>by
  rcases List.mem_cons.1 ht with rfl | ht
  ·exact h.1
  ·exact X2K ht h.2
theorem Rsp.wpO {o : Oper} (hK : Rsp K) : Rsp (fun s=>wpO P sl o s K):=by
 intro s s' h hq
 unfold Go.Proofs.YtchlpclgkhggeaaGreat.wpO at *
 rcases hq with hq | ⟨hm,js,v,H',q1,q2,q3,q4,q5⟩
 rotate_left
 ·refine .inr ⟨hm,js,v,H',q1,fun ρ' hr E a w κ S uss hsee=>?_, ?_,fun t ht id off e=>q4 t ht id off (by rw [h.get]; exact e),hK _ _ ((h.put _ _).withHp _) q5⟩
  ·rw [← h.ev] at hr; rw [← h.1] at hsee; exact q2 ρ' hr E a w κ S uss hsee
  ·rw [← h.1]; exact q3
 refine .inl ⟨hq.1, ?_, ?_⟩
 ·have:=hq.2.1
  unfold sepO at *
  split
  ·rename_i e
   rw [e] at this
   exact X4Q (by rw [h.ev]) (fun t _=>h.get t) this
  ·trivial
 ·rw [← h.ev,← h.1]
  exact Y0l (fun v H2 _ _=>hK _ _ ((h.put _ _).withHp _)) hq.2.2
def gon (ops : Array Oper) (g : Option (Nat × Bool)) (s : St) (b : Bool) : Prop :=
 match g with
 | none=>b = true
 | some (j,want)=>(∃ t c,(ops[j]?).bind (·.dst) = some t ∧ s.get t = .lit (.bool c) ∧ b = (c == want)) ∨ (∃ t,(ops[j]?).bind (·.dst) = some t ∧ s.get t = .tup [] ∧ b = false)
theorem X4M {o : Oper} {s : St} (hK : Rsp K) : stp P ops sl o s K ↔ ∃ b,gon ops o.guard s b ∧ (b = true → wpO P sl o s K) ∧ (b = false → K (s.put o.dst (.tup []))):=by
 unfold stp
 generalize o.guard = g
 cases g with
 | none=>simp [gdC,gon]
 | some jw =>
  obtain ⟨j,want⟩:=jw
  unfold gdC gon
  constructor
  ·rintro (⟨t,c,h1,h2,h3,h4⟩ | ⟨t,h1,h2,h3⟩)
   rotate_left
   ·exact ⟨false,.inr ⟨t,h1,h2,rfl⟩,by simp,fun _=>h3⟩
   refine ⟨c == want,.inl ⟨t,c,h1,h2,rfl⟩, ?_, ?_⟩
   ·intro e
    obtain rfl : c = want:=by simpa using e
    exact hK.wpO _ _ (Sq.put_get h2) (h3 rfl)
   ·intro e
    obtain rfl : c = !want:=by cases c <;> cases want <;> simp_all
    exact hK _ _ ((Sq.put_get h2).put _ _) (h4 rfl)
  ·rintro ⟨b,(⟨t,c,h1,h2,rfl⟩ | ⟨t,h1,h2,rfl⟩),h3,h4⟩
   rotate_left
   ·exact .inr ⟨t,h1,h2,h4 rfl⟩
   refine .inl ⟨t,c,h1,h2, ?_, ?_⟩
   ·rintro rfl
    exact hK.wpO _ _ (Sq.put_get h2).symm (h3 (by simp))
   ·rintro rfl
    exact hK _ _ ((Sq.put_get h2).symm.put _ _) (h4 (by cases want <;> rfl))
theorem Rsp.stp {o : Oper} (hK : Rsp K) : Rsp (fun s=>stp P ops sl o s K):=by
 intro s s' h hq
 rw [X4M hK] at *
 obtain ⟨b,h1,h2,h3⟩:=hq
 refine ⟨b, ?_,fun e=>hK.wpO _ _ h (h2 e),fun e=>hK _ _ (h.put _ _) (h3 e)⟩
 generalize o.guard = g at h1
 cases g with
 | none=>exact h1
 | some jw =>
  rcases h1 with ⟨t,c,e1,e2,e3⟩ | ⟨t,e1,e2,e3⟩
  ·exact .inl ⟨t,c,e1,by rw [← h.get]; exact e2,e3⟩
  ·exact .inr ⟨t,e1,by rw [← h.get]; exact e2,e3⟩
theorem Rsp.wpL (hK : Rsp K) : ∀ l : List Oper,Rsp (wpL P ops sl K l)
 | []=>hK
 | o :: l=>(Rsp.wpL hK l).stp (P:=P) (ops:=ops) (o:=o)
theorem Y0t {o : Oper} {s : St} {K' : St → Prop} (h : ∀ s,K s → K' s) (hq : stp P ops sl o s K) : stp P ops sl o s K':=by
 have hw : ∀ s : St,wpO P sl o s K → wpO P sl o s K':=by
  rintro s (hq | ⟨hm,js,v,H',q1,q2,q3,q4,q5⟩)
  ·exact .inl ⟨hq.1,hq.2.1,Y0l (fun _ _ _ _=>h _) hq.2.2⟩
  ·exact .inr ⟨hm,js,v,H',q1,q2,q3,q4,h _ q5⟩
 unfold stp gdC at *
 split at hq
 ·exact hw _ hq
 ·rcases hq with ⟨t,b,h1,h2,h3,h4⟩ | ⟨t,h1,h2,h3⟩
  ·exact .inl ⟨t,b,h1,h2,fun e=>hw _ (h3 e),fun e=>h _ (h4 e)⟩
  ·exact .inr ⟨t,h1,h2,h _ h3⟩
theorem Q4a {o : Oper} {s : St} {d : Option Tmp} {v : V} (h : ∀ t,d = some t → t ∉ o.looksAt ops) (x : Operand) (hx : x ∈ o.op.operands) : s.ev x = (s.put d v).ev x:=by
 cases d with
 | none=>rfl
 | some d =>
  unfold St.ev
  split
  ·rename_i t
   have hne : t ≠ d:=by
    rintro rfl
    exact h t rfl (List.mem_append_left _ (List.mem_filterMap.2 ⟨.tmp t,by simpa using hx,rfl⟩))
   unfold St.get
   rw [St.lookup_put,if_neg hne]
  all_goals rfl
theorem X3g {o : Oper} {s : St} {d : Option Tmp} {v : V} {b : Bool} (h : ∀ t,d = some t → t ∉ o.looksAt ops) : gon ops o.guard s b ↔ gon ops o.guard (s.put d v) b:=by
 cases d with
 | none=>exact Iff.rfl
 | some d =>
  cases hg : o.guard with
  | none=>exact Iff.rfl
  | some jw =>
   obtain ⟨j,want⟩:=jw
   have key : ∀ t,(ops[j]?).bind (·.dst) = some t → (s.put (some d) v).get t = s.get t:=by
    intro t ht
    have hne : t ≠ d:=by
     rintro rfl
     refine h t rfl (List.mem_append_right _ ?_)
     rw [hg]
     simp [ht]
    unfold St.get
    rw [St.lookup_put,if_neg hne]
   constructor
   ·rintro (⟨t,c,h1,h2,h3⟩ | ⟨t,h1,h2,h3⟩)
    ·exact .inl ⟨t,c,h1,by rw [key t h1]; exact h2,h3⟩
    ·exact .inr ⟨t,h1,by rw [key t h1]; exact h2,h3⟩
   ·rintro (⟨t,c,h1,h2,h3⟩ | ⟨t,h1,h2,h3⟩)
    ·exact .inl ⟨t,c,h1,by rw [← key t h1]; exact h2,h3⟩
    ·exact .inr ⟨t,h1,by rw [← key t h1]; exact h2,h3⟩
theorem Z0z {o : Oper} {s : St} {H : List Ob} {b : Bool} : gon ops o.guard { s with hp:=H } b ↔ gon ops o.guard s b:=Iff.rfl
def lateB (lt : List Nat) (j : Oper) : Bool :=
 match j.op with
 | .load _ (.tmp t)=>lt.elem t
 | _=>false
def lateC (lt : List Nat) (j : Oper) : Bool :=
 match j.op with
 | .load _ (.tmp t)=>lt.elem (1000000 + t)
 | _=>false
def nwB (lt : List Nat) (j k : Oper) : Bool :=
 match j.op with
 | .load _ (.tmp t)=>(!lt.elem t || (match k.dst with | some d=>!clsB t d | none=>true)) && (!lt.elem (1000000 + t) || (match k.dst with | some d=>!clsB (1000000 + t) d | none=>true))
 | _=>true
def stB : Op → Bool
 | .store ..=>true
 | _=>false
theorem Y3Q {ns : List (Nat × Nat)} {op : Op} {d : Option Tmp} (h : cvB op = true) : slt ns op d = none ∧ chB op = false ∧ qtB op = false:=by
 unfold cvB at h
 split at h
 ·exact ⟨rfl,rfl,rfl⟩
 ·cases h
theorem Z2i {op : Op} (h : avB op = true) : stB op = false:=by
 unfold avB at h
 split at h
 ·rfl
 ·rfl
 ·cases h
theorem Z1Y {op : Op} (h : cvB op = true) : stB op = false:=by
 unfold cvB at h
 split at h
 ·rfl
 ·cases h
theorem Y9k {sl1 sl2 : Sl} (hns : sl1.ns = sl2.ns) (hmc : sl1.mc = sl2.mc) {i j : Oper} {s : St} (hK : Rsp K) (hq : qtB j.op = true) (hlt : ∀ t ∈ sl2.lt,t ∈ sl1.lt ∧ ∀ d,j.dst = some d → clsB t d = false) (hap : j.apart ops i = true) (hself : ∀ t,.tmp t ∈ j.op.operands → j.dst ≠ some t)
  (haj : avB j.op = false ∨ sl.mc = false)
  (hch : ldB j.op = false ∨ (chB i.op = false ∧ (sl1.mc && mvB i.op) = false) ∨ ((slt sl1.ns i.op i.dst).isSome = true ∧ (sl1.mc && avB i.op) = false) ∨ (lateB sl1.lt j = true ∧ stB i.op = true) ∨ (lateC sl1.lt j = true ∧ (cvB i.op = true ∨ (sl1.mc && avB i.op) = true)))
  (h : stp P ops sl j s fun s=>stp P ops sl1 i s K) : stp P ops sl2 i s fun s=>stp P ops sl j s K:=by
 obtain ⟨a1,a2,a3⟩:=Oper.apart_spec hap
 rw [X4M hK.stp] at h
 rw [X4M hK.stp]
 obtain ⟨bj,hgj,h1,h2⟩:=h
 have hsj : ∀ s : St,sepO sl.lt j.op s:=by
  intro s
  unfold sepO
  split
  ·rename_i e; rw [e] at hq; cases hq
  ·trivial
 -- the quiet one's value
 have hv : ∃ v,stp P ops sl1 i (s.put j.dst v) K ∧ ∀ s2 : St,(∀ x ∈ j.op.operands,s.ev x = s2.ev x) → (gon ops j.guard s2 bj) → Lst j.op s.ev s.hp s2.hp → K (s2.put j.dst v) → stp P ops sl j s2 K:=by
  cases bj with
  | true =>
   have hcj : cvB j.op = false:=by
    cases e : cvB j.op with
    | false=>rfl
    | true=>rw [(Y3Q (ns:=[]) (d:=none) e).2.2] at hq; cases hq
   have hmj : mvB j.op = false ∨ sl.mc = false:=haj.imp (fun h=>by unfold mvB; rw [hcj,h]; rfl) id
   have h1:=((X5x hmj).1 (h1 rfl)).2
   rw [Y2e hq,Q9P] at h1
   obtain ⟨v,h3,h4⟩:=Y9a hq h1
   rw [St.put_eta] at h3
   refine ⟨v,h3,fun s2 he hg hst hk=>?_⟩
   rw [X4M hK]
   refine ⟨true,hg,fun _=>(X5x hmj).2 ⟨hsj _, ?_⟩,by simp⟩
   rw [Y2e hq,Q9P]
   exact h4 _ _ _ he hst (by rw [St.put_eta]; exact hk)
  | false =>
   refine ⟨.tup [],h2 rfl,fun s2 he hg hst hk=>?_⟩
   rw [X4M hK]
   exact ⟨false,hg,by simp,fun _=>hk⟩
 obtain ⟨v,hi,hj⟩:=hv
 rw [X4M hK] at hi
 obtain ⟨bi,hgi,h3,h4⟩:=hi
 refine ⟨bi,(X3g a1).2 hgi,fun e=>?_,fun e=>?_⟩
 ·have h3:=h3 e
  have hget : ∀ t,j.dst ≠ some t → (s.put j.dst v).get t = s.get t:=by
   intro t hne
   cases hd : j.dst with
   | none=>rfl
   | some d =>
    unfold St.get
    rw [St.lookup_put,if_neg]
    rintro rfl
    exact hne hd
  unfold wpO at h3 ⊢
  rcases h3 with h3 | ⟨hm,js,u,H2,hcv,q2,q3,q4,q5⟩
  rotate_left
  ·rw [St.hp_put] at q3
   refine .inr ⟨by rw [← hmc]; exact hm,js,u,H2,hcv,fun ρ' hr E a w κ S uss hsee=>?_,q3,fun t ht id off e=>?_, ?_⟩
   ·refine q2 ρ' (fun x hx=>?_) E a w κ S uss ?_
    ·rw [hr x hx]; exact Q4a a1 x hx
    ·rw [St.hp_put]; exact hsee
   ·obtain ⟨t1,t2⟩:=hlt _ ht
    replace t2 : j.dst ≠ some t:=fun e=>by have:=t2 _ e; rw [Z2c] at this; cases this
    exact q4 t t1 id off (by rw [hget t t2]; exact e)
   ·have hk' : K (({ (s.put i.dst u) with hp:=H2 } : St).put j.dst v):=by
     refine hK _ _ ?_ q5
     rw [← St.put_hp]
     have e2:=(Sq.put_put s v u a2).2
     refine ⟨?_,fun t=>?_⟩
     ·cases hj : j.dst <;> rfl
     ·have e3:=e2 t
      cases hi : i.dst <;> cases hj : j.dst <;> rw [hi,hj] at e3 <;> exact e3
    refine hj _ (fun x hx=>?_) ?_ ?_ hk'
    ·rw [St.ev_hp]; exact Q4a a3 x hx
    ·rw [Z0z]; exact (X3g a3).1 hgj
    ·show Lst j.op s.ev s.hp H2
     rcases hch with h | ⟨_,h⟩ | ⟨h,h'⟩ | ⟨_,h⟩ | ⟨h,_⟩
     ·intro t a e; rw [e] at h; cases h
     ·rw [hm,hcv] at h; cases h
     ·rcases Y2r hcv with hcv | hcv
      ·rw [(Y3Q hcv).1] at h; cases h
      ·rw [hm,hcv] at h'; cases h'
     ·rcases Y2r hcv with hcv | hcv
      ·rw [Z1Y hcv] at h; cases h
      ·rw [Z2i hcv] at h; cases h
     ·intro t a e id' off' hra ob' p1 p2
      unfold lateC at h
      rw [e] at h
      split at h
      ·rename_i t' q
       simp only [Op.load.injEq] at q
       obtain ⟨rfl,rfl⟩:=q
       have hne : j.dst ≠ some t':=fun hd=>hself t' (by rw [e]; simp [Op.operands]) hd
       exact q3 id' (q4 t' (by simpa using h) id' off' (by rw [hget t' hne]; exact hra)) ob' p1
      ·cases h
  refine .inl ⟨by rw [← hmc]; exact h3.1, ?_⟩
  have hav:=h3.1
  replace h3:=h3.2
  rw [St.hp_put] at h3
  have hsep : sepO sl2.lt i.op s:=by
   have:=h3.1
   unfold sepO at *
   split
   ·rename_i t a x ei
    rw [ei] at this
    have h0 : sepC (s.ev a) s sl1.lt → sepC (s.ev a) s sl2.lt:=by
     intro h
     have : ∀ l : List Nat,(∀ t ∈ l,t ∈ sl1.lt) → sepC (s.ev a) s l:=by
      intro l
      induction l with
      | nil=>intro _; trivial
      | cons t l ih=>intro hl; exact ⟨X2K (hl t (by simp)) h,ih fun t ht=>hl t (by simp [ht])⟩
     exact this _ fun t ht=>(hlt t ht).1
    have h1 : sepC ((s.put j.dst v).ev a) (s.put j.dst v) sl2.lt:=by
     have : ∀ l : List Nat,(∀ t ∈ l,t ∈ sl1.lt) → sepC ((s.put j.dst v).ev a) (s.put j.dst v) l:=by
      intro l
      induction l with
      | nil=>intro _; trivial
      | cons t l ih=>intro hl; exact ⟨X2K (hl t (by simp)) this,ih fun t ht=>hl t (by simp [ht])⟩
     exact this _ fun t ht=>(hlt t ht).1
    refine X4Q ((Q4a a1 a (by rw [ei]; simp [Op.operands])).symm) (fun t ht=>?_) h1
    cases hd : j.dst with
    | none=>rfl
    | some d =>
     unfold St.get
     rw [St.lookup_put,if_neg]
     rintro rfl
     have h2:=(hlt _ ht).2 _ hd
     rw [Z2b] at h2; cases h2
   ·trivial
  have hsep1 : ∀ (ty : TypeId) (ad x : Operand),i.op = .store ty ad x → ∀ t ∈ sl1.lt,j.dst ≠ some t → nre (s.ev ad) (s.get t):=by
   intro ty ad x ei t ht hne
   have:=h3.1
   unfold sepO at this
   rw [ei] at this
   have h2:=X2K ht this
   rw [← Q4a a1 ad (by rw [ei]; simp [Op.operands])] at h2
   have : (s.put j.dst v).get t = s.get t:=by
    cases hd : j.dst with
    | none=>rfl
    | some d =>
     unfold St.get
     rw [St.lookup_put,if_neg]
     rintro rfl
     exact hne hd
   rwa [this] at h2
  rw [← hns]
  refine ⟨hsep, ?_⟩
  have h3':=Y5r (ρ':=s.ev) (fun x hx=>(Q4a a1 x hx).symm) h3.2
  refine Y0l (fun u H2 hg hstr hk=>?_) h3'
  have hk' : K (({ (s.put i.dst u) with hp:=H2 } : St).put j.dst v):=by
   refine hK _ _ ?_ hk
   rw [← St.put_hp]
   have e2:=(Sq.put_put s v u a2).2
   refine ⟨?_,fun t=>?_⟩
   ·cases hj : j.dst <;> rfl
   ·have e3:=e2 t
    cases hi : i.dst <;> cases hj : j.dst <;> rw [hi,hj] at e3 <;> exact e3
  refine hj _ (fun x hx=>?_) ?_ ?_ hk'
  ·rw [St.ev_hp]; exact Q4a a3 x hx
  ·rw [Z0z]; exact (X3g a3).1 hgj
  ·show Lst j.op s.ev s.hp H2
   rcases hch with h | h | h | ⟨h,hs⟩ | ⟨h,hs⟩
   rotate_right
   ·rcases hs with hs | hs
    ·exact (hg (.inl (Y3Q (ns:=[]) (d:=none) hs).2.1)).lst
    ·rw [hs] at hav; cases hav
   ·intro t a e; rw [e] at h; cases h
   ·exact (hg (.inl h.1)).lst
   ·exact (hg (.inr h.1)).lst
   ·intro t a e id' off' hra ob' q1 q2
    unfold stB at hs
    split at hs
    ·rename_i ty ad x ei
     obtain ⟨id,off,ob2,p1,rfl⟩:=hstr _ _ _ ei
     unfold lateB at h
     rw [e] at h
     split at h
     ·rename_i t' q
      simp only [Op.load.injEq] at q
      obtain ⟨rfl,rfl⟩:=q
      have hne:=hsep1 _ _ _ ei t' (by simpa using h) (fun hd=>hself t' (by rw [e]; simp [Op.operands]) hd) id off id' off' p1 hra
      rw [List.getElem?_set,if_neg hne]; exact q1
     ·cases h
    ·cases hs
 ·have h4:=h4 e
  refine hj _ (fun x hx=>Q4a a3 x hx) ((X3g a3).1 hgj) (Grw.lst (.inl ⟨[],by rw [St.hp_put]; simp⟩)) ?_
  exact hK _ _ (Sq.put_put s v (.tup []) a2) h4
def slB (ds : List Nat) (o : Oper) : Bool :=
 match o.op,o.dst with
 | .alloc _,some d=>ds.elem d
 | .makeSlice _ _ _,some d=>ds.elem d
 | .call { callee:=.builtin .append,.. },some d=>ds.elem d
 | _,_=>false
theorem Y3l {ds : List Nat} {o : Oper} (hsl : ∀ d ∈ ds,∃ id,sl.ns.lookup d = some id) (h : slB ds o = true) : ∃ id,slt sl.ns o.op o.dst = some id:=by
 unfold slB at h
 split at h
 ·rename_i e1 e2
  obtain ⟨id,hid⟩:=hsl _ (by simpa using h)
  exact ⟨id,by rw [e1,e2]; exact hid⟩
 ·rename_i e1 e2
  obtain ⟨id,hid⟩:=hsl _ (by simpa using h)
  exact ⟨id,by rw [e1,e2]; exact hid⟩
 ·rename_i e1 e2
  obtain ⟨id,hid⟩:=hsl _ (by simpa using h)
  exact ⟨id,by rw [e1,e2]; exact hid⟩
 ·cases h
mutual
theorem Le.mono {H H2 : List Ob} {f : Fl} (hm : ∀ (i : Nat) (ob : Ob),H[i]? = some ob → ob.st = .own ∨ ob.st = .frz → H2[i]? = some ob) : ∀ {v v' : V},Le H f v v' → Le H2 f v v'
 | _,_,.any v=>.any v
 | _,_,.lit v=>.lit v
 | _,_,.emp=>.emp
 | _,_,.esl g sz=>.esl g sz
 | _,_,.sl g g' sz n cs cs' h1 h2=>.sl g g' sz n cs cs' h1 (LeL.mono hm h2)
 | _,_,.ptr g g' cs cs' h1 h2=>.ptr g g' cs cs' h1 (LeL.mono hm h2)
 | _,_,.agg vs vs' h=>.agg vs vs' (LeL.mono hm h)
 | _,_,.tup vs vs' h=>.tup vs vs' (LeL.mono hm h)
 | _,_,.fn x fs fs' cs cs' h1 h2=>.fn x fs fs' cs cs' (LeL.mono hm h1) (LeL.mono hm h2)
 | _,_,.rsl id sz o n ob cs' h1 h2 h3 h4=>.rsl id sz o n ob cs' (hm _ _ h1 h2) h2 h3 (LeL.mono hm h4)
 | _,_,.rslz id sz o n ob h1 h2 h3 h4=>.rslz id sz o n ob (hm _ _ h1 (.inr h2)) h2 h3 h4
 | _,_,.ref id off ob cs' h1 h2 h3=>.ref id off ob cs' (hm _ _ h1 h2) h2 (LeL.mono hm h3)
 | _,_,.refz id off ob h1 h2 h3=>.refz id off ob (hm _ _ h1 (.inr h2)) h2 h3
theorem LeL.mono {H H2 : List Ob} {f : Fl} (hm : ∀ (i : Nat) (ob : Ob),H[i]? = some ob → ob.st = .own ∨ ob.st = .frz → H2[i]? = some ob) : ∀ {vs vs' : List V},LeL H f vs vs' → LeL H2 f vs vs'
 | _,_,.nil=>.nil
 | _,_,.cons v v' vs vs' h1 h2=>.cons v v' vs vs' (Le.mono hm h1) (LeL.mono hm h2)
end
theorem Z4s {H : List Ob} {id i : Nat} {ob : Ob} (hr : isRes H[id]?) (h : H[i]? = some ob) (hst : ob.st = .own ∨ ob.st = .frz) : id ≠ i:=by
 rintro rfl
 obtain ⟨ob0,e1,e2⟩:=hr
 rw [h] at e1
 obtain rfl:=Option.some.inj e1
 rw [e2] at hst
 rcases hst with h | h <;> cases h
theorem Y6B {ds : List Nat} (hsl : ∀ d ∈ ds,∃ id,sl.ns.lookup d = some id) {i j : Oper} {s : St} (hK : Rsp K) (hap : j.apart ops i = true) (hi : slB ds i = true) (hj : slB ds j = true ∨ cvB j.op = true) (him : mvB i.op = false ∨ sl.mc = false) (hjm : mvB j.op = false ∨ sl.mc = false)
  (hgi : i.guard = none) (hgj : j.guard = none) (h : stp P ops sl j s fun s=>stp P ops sl i s K) : stp P ops sl i s fun s=>stp P ops sl j s K:=by
 obtain ⟨a1,a2,a3⟩:=Oper.apart_spec hap
 unfold stp gdC at *
 rw [hgi] at *
 rw [hgj] at *
 simp only at h ⊢
 obtain ⟨idi,hidi⟩:=Y3l hsl hi
 have nst : ∀ o : Oper,(slB ds o = true ∨ cvB o.op = true) → ∀ s : St,sepO sl.lt o.op s:=by
  intro o ho s
  unfold sepO
  split
  ·rename_i e
   rcases ho with ho | ho
   ·unfold slB at ho; rw [e] at ho; cases ho
   ·rw [e] at ho; cases ho
  ·trivial
 have sepi:=nst i (.inl hi)
 have sepj:=nst j hj
 have ei : ∀ K : St → Prop,(fun s=>wpO P sl i s K) = fun s=>sepO sl.lt i.op s ∧ wpS P (slt sl.ns i.op i.dst) i.op s.ev s.hp fun v H=>K { (s.put i.dst v) with hp:=H }:=fun K=>funext fun s=>propext (X5x him)
 have ej : ∀ K : St → Prop,(fun s=>wpO P sl j s K) = fun s=>sepO sl.lt j.op s ∧ wpS P (slt sl.ns j.op j.dst) j.op s.ev s.hp fun v H=>K { (s.put j.dst v) with hp:=H }:=fun K=>funext fun s=>propext (X5x hjm)
 rw [ei] at h
 rw [X5x hjm] at h
 rw [ej,X5x him]
 refine ⟨sepi _, ?_⟩
 replace h:=h.2
 rw [hidi] at h ⊢
 rw [X2B]
 simp only [X2B,sepi,true_and] at h
 -- the maker's part,done
 have key : ∀ (vj : V) (Hj : List Ob),slC P i.op ({ (s.put j.dst vj) with hp:=Hj } : St).ev idi Hj (fun v H=>K { (({ (s.put j.dst vj) with hp:=Hj } : St).put i.dst v) with hp:=H }) → isRes s.hp[idi]? →
   ∃ v ob,ob.st = .own ∧ K (({ s with hp:=Hj.set idi ob } : St).put i.dst v |>.put j.dst vj) ∧ ∀ K' : V → List Ob → Prop,K' v (s.hp.set idi ob) → slC P i.op s.ev idi s.hp K':=by
  intro vj Hj h hr
  obtain ⟨_,v,ob,h1,h2,h3⟩:=Y0v h
  refine ⟨v,ob,h1,hK _ _ ?_ h2,fun K' hk=>h3 _ _ _ (fun x hx=>?_) hr hk⟩
  ·have e2:=(Sq.put_put s vj v a2).2
   refine ⟨by cases j.dst <;> cases i.dst <;> rfl,fun t=>?_⟩
   have e3:=e2 t
   cases hi : i.dst <;> cases hj : j.dst <;> rw [hi,hj] at e3 <;> exact e3
  ·rw [St.ev_hp]; exact (Q4a (ops:=ops) a1 x hx).symm
 have hlook : ∀ (v : V) (H : List Ob),∀ x ∈ j.op.operands,s.ev x = ({ (s.put i.dst v) with hp:=H } : St).ev x:=by
  intro v H x hx
  rw [St.ev_hp]; exact Q4a (ops:=ops) a3 x hx
 have hKe : ∀ (v vj : V) (H : List Ob),K (({ s with hp:=H } : St).put i.dst v |>.put j.dst vj) → K { (({ (s.put i.dst v) with hp:=s.hp } : St).put j.dst vj) with hp:=H }:=by
  intro v vj H h
  refine hK _ _ ⟨?_,fun t=>?_⟩ h
  ·cases j.dst <;> cases i.dst <;> rfl
  ·cases j.dst <;> cases i.dst <;> rfl
 rcases hj with hj | hj
 ·-- two makers
  obtain ⟨idj,hidj⟩:=Y3l hsl hj
  rw [hidj,X2B] at h
  obtain ⟨hrj,vj,obj,g1,g2,g3⟩:=Y0v h
  have hri : isRes s.hp[idi]? ∧ idj ≠ idi:=by
   obtain ⟨ob0,e1,e2⟩:=g2.1
   have e1 : (s.hp.set idj obj)[idi]? = some ob0:=e1
   rw [List.getElem?_set] at e1
   split at e1
   ·split at e1
    ·obtain rfl:=Option.some.inj e1; rw [g1] at e2; cases e2
    ·cases e1
   ·rename_i hne; exact ⟨⟨ob0,e1,e2⟩,hne⟩
  obtain ⟨v,ob,k1,k2,k3⟩:=key vj _ g2 hri.1
  refine k3 _ ?_
  refine ⟨sepj _, ?_⟩
  show wpS P (slt sl.ns j.op j.dst) j.op _ _ _
  rw [hidj,X2B]
  refine g3 _ _ _ (hlook v _) ?_ ?_
  ·obtain ⟨ob0,e1,e2⟩:=hrj
   refine ⟨ob0, ?_,e2⟩
   show (s.hp.set idi ob)[idj]? = _
   rw [List.getElem?_set,if_neg (fun e=>hri.2 e.symm)]; exact e1
  ·show K _
   refine hK _ _ ⟨?_,fun t=>?_⟩ k2
   ·show _ = (s.hp.set idi ob).set idj obj
    rw [List.set_comm _ _ (fun e=>hri.2 e.symm)]
    cases j.dst <;> cases i.dst <;> rfl
   ·cases j.dst <;> cases i.dst <;> rfl
 ·-- a call
  unfold cvB at hj
  split at hj
  ·rename_i f args ts hop
   have hn : slt sl.ns j.op j.dst = none:=by rw [hop]; rfl
   rw [hn] at h
   have hgoal : ∀ (v : V) (ob : Ob),isRes s.hp[idi]? → (∀ (i : Nat) (ob' : Ob),s.hp[i]? = some ob' → ob'.st = .own ∨ ob'.st = .frz → (s.hp.set idi ob)[i]? = some ob'):=by
    intro v ob hr i' ob' h1 h2
    rw [List.getElem?_set,if_neg (Z4s hr h1 h2)]; exact h1
   have h' : callC P (s.ev f) (args.toList.map s.ev) s.hp (fun v=>slC P i.op ({ (s.put j.dst v) with hp:=s.hp } : St).ev idi s.hp (fun u H=>K { (({ (s.put j.dst v) with hp:=s.hp } : St).put i.dst u) with hp:=H })) ∨
     callO P (s.ev f) (args.toList.map s.ev) s.hp (fun v H0=>slC P i.op ({ (s.put j.dst v) with hp:=H0 } : St).ev idi H0 (fun u H=>K { (({ (s.put j.dst v) with hp:=H0 } : St).put i.dst u) with hp:=H })):=by
    rw [Q9P,hop] at h; exact h
   have hev : ∀ (v : V) (H : List Ob),({ (s.put i.dst v) with hp:=H } : St).ev f = s.ev f ∧ args.toList.map ({ (s.put i.dst v) with hp:=H } : St).ev = args.toList.map s.ev:=by
    intro v H
    have:=hlook v H
    rw [hop] at this
    exact ⟨(this f (by simp [Op.operands,Call.operands])).symm,List.map_congr_left fun x hx=>(this x (by simp [Op.operands,Call.operands]; exact .inr (by simpa using hx))).symm⟩
   rcases h' with h' | h'
   ·unfold callC at h'
    split at h'
    ·rename_i g fs cs hf
     obtain ⟨args',r,q1,q2,q3⟩:=h'
     obtain ⟨v,ob,k1,k2,k3⟩:=key r s.hp q3 q3.1
     refine k3 _ ?_
     refine ⟨sepj _, ?_⟩
     show wpS P (slt sl.ns j.op j.dst) j.op _ _ _
     rw [hn,Q9P,hop]
     refine .inl ?_
     rw [(hev v _).1,(hev v _).2,hf]
     refine ⟨args',r,LeL.mono (hgoal v ob q3.1) q1,q2, ?_⟩
     refine hK _ _ ⟨?_,fun t=>?_⟩ k2
     ·cases j.dst <;> cases i.dst <;> rfl
     ·cases j.dst <;> cases i.dst <;> rfl
    ·exact h'.elim
   ·unfold callO at h'
    split at h'
    ·rename_i g fs cs hf
     obtain ⟨r,objs,q1,q4,q3⟩:=h'
     have hri : isRes s.hp[idi]?:=by
      obtain ⟨ob0,e1,e2⟩:=q3.1
      by_cases hlt : idi < s.hp.length
      ·rw [List.getElem?_append_left hlt] at e1; exact ⟨ob0,e1,e2⟩
      ·exfalso
       rw [List.getElem?_append_right (by omega),List.getElem?_map] at e1
       cases ho : objs[idi - s.hp.length]? with
       | none=>rw [ho] at e1; cases e1
       | some ob1 =>
        rw [ho] at e1
        obtain rfl:=Option.some.inj e1
        exact q4 ob1 (List.mem_of_getElem? ho) e2
     obtain ⟨v,ob,k1,k2,k3⟩:=key _ _ q3 hri
     refine k3 _ ?_
     refine ⟨sepj _, ?_⟩
     show wpS P (slt sl.ns j.op j.dst) j.op _ _ _
     rw [hn,Q9P,hop]
     refine .inr ?_
     rw [(hev v _).1,(hev v _).2,hf]
     refine ⟨r,objs,q1.imp (fun ⟨a,e1,e2⟩=>⟨a,LeL.mono (hgoal v ob hri) e1,e2⟩) (fun h=>h),q4, ?_⟩
     have hlen : (s.hp.set idi ob).length = s.hp.length:=by simp
     have hlt : idi < s.hp.length:=by obtain ⟨_,e,_⟩:=hri; exact (List.getElem?_eq_some_iff.1 e).1
     refine hK _ _ ⟨?_,fun t=>?_⟩ k2
     ·show _ = (s.hp.set idi ob) ++ objs.map (Ob.sh (s.hp.set idi ob).length)
      rw [hlen,← List.set_append_left _ _ hlt]
      cases j.dst <;> cases i.dst <;> rfl
     ·show _ = List.lookup t (({ (s.put i.dst v) with hp:=_ } : St).put j.dst (V.sh (s.hp.set idi ob).length r)).tm
      rw [hlen]
      cases j.dst <;> cases i.dst <;> rfl
    ·exact h'.elim
  ·cases hj
def slfB (j : Oper) : Bool:=j.op.operands.toList.all fun x=>match x,j.dst with | .tmp t,some d=>!Nat.beq t d | _,_=>true
theorem Y6G {j : Oper} (h : slfB j = true) : ∀ t,.tmp t ∈ j.op.operands → j.dst ≠ some t:=by
 intro t ht hd
 unfold slfB at h
 have:=(List.all_eq_true.1 h) (.tmp t) (by simpa using ht)
 rw [hd] at this
 simp at this
def swB (ops : Array Oper) (ds lt : List Nat) (j i : Oper) : Bool :=
 j.apart ops i && ((qtB j.op && slfB j && !(mcl lt && avB j.op) && (!ldB j.op || (!chB i.op && !(mcl lt && mvB i.op)) || (slB ds i && !(mcl lt && avB i.op)) || (lateB lt j && stB i.op) || (lateC lt j && (cvB i.op || (mcl lt && avB i.op))))) || (slB ds i && !(mcl lt && mvB i.op) && (slB ds j || cvB j.op) && !(mcl lt && mvB j.op) && i.guard.isNone && j.guard.isNone))
def ltR (lt : List Nat) : List Oper → List Nat
 | []=>lt
 | j :: r=>(ltR lt r).filter fun t=>match j.dst with | some d=>!clsB t d | none=>true
theorem Y3B {lt : List Nat} {t : Nat} (ht : t ∈ lt) : ∀ {r : List Oper},(∀ k ∈ r,∀ d,k.dst = some d → clsB t d = false) → t ∈ ltR lt r
 | [],_=>ht
 | j :: r,h=>by
  unfold ltR
  refine List.mem_filter.2 ⟨Y3B ht fun k hk=>h k (by simp [hk]), ?_⟩
  cases hd : j.dst with
  | none=>rfl
  | some d =>
   have:=h j (by simp) d hd
   show (!clsB t d) = true
   rw [this]; rfl
theorem Z0j {sl1 sl2 : Sl} (hns : sl1.ns = sl2.ns) (hmc : sl1.mc = sl2.mc) {i : Oper} (hcv : mvB i.op = false ∨ sl1.mc = false) (hsep : ∀ s : St,sepO sl2.lt i.op s) {s : St} (h : stp P ops sl1 i s K) : stp P ops sl2 i s K:=by
 have hw : ∀ s : St,wpO P sl1 i s K → wpO P sl2 i s K:=by
  intro s h
  rw [X5x hcv] at h
  rw [X5x (hcv.imp id (fun e=>by rw [← hmc]; exact e)),← hns]
  exact ⟨hsep _,h.2⟩
 unfold stp gdC at *
 split at h
 ·exact hw _ h
 ·rcases h with ⟨t,b,h1,h2,h3,h4⟩ | h
  ·exact .inl ⟨t,b,h1,h2,fun e=>hw _ (h3 e),h4⟩
  ·exact .inr h
theorem X9A {ds lt : List Nat} (hlt : sl.lt = lt) (hmc : sl.mc = mcl lt) (hsl : ∀ d ∈ ds,∃ id,sl.ns.lookup d = some id) {i : Oper} (hK : Rsp K) : ∀ {r1 r2 : List Oper} {s : St},(∀ j ∈ r1,swB ops ds lt j i = true) →
  r1.Pairwise (fun j k=>nwB lt j k = true) → wpL P ops sl K (r1 ++ i :: r2) s → stp P ops ⟨sl.ns,ltR lt r1,sl.mc⟩ i s (wpL P ops sl K (r1 ++ r2))
 | [],r2,s,_,_,h=>by
  rw [List.nil_append,X7a] at h
  subst hlt
  exact h
 | j :: r1,r2,s,hs,hp,h=>by
  have h1 : stp P ops sl j s (fun s=>stp P ops ⟨sl.ns,ltR lt r1,sl.mc⟩ i s (wpL P ops sl K (r1 ++ r2))) :=
   Y0t (fun s h=>X9A hlt hmc hsl hK (fun j hj=>hs j (by simp [hj])) (List.pairwise_cons.1 hp).2 h) h
  have hj:=hs j (by simp)
  unfold swB at hj
  simp only [Bool.and_eq_true,Bool.or_eq_true,Bool.not_eq_true'] at hj
  rcases hj with ⟨ha,hj | hj⟩
  ·have haj : avB j.op = false ∨ sl.mc = false:=by
    rw [hmc]
    have:=hj.1.2
    cases e : avB j.op with
    | false=>exact .inl rfl
    | true=>rw [e] at this; simp at this; exact .inr this
   refine Y9k (sl1:=⟨sl.ns,ltR lt r1,sl.mc⟩) (sl2:=⟨sl.ns,ltR lt (j :: r1),sl.mc⟩) rfl rfl (Rsp.wpL hK _) hj.1.1.1 ?_ ha (Y6G hj.1.1.2) haj ?_ h1
   ·intro t ht
    obtain ⟨q1,q2⟩:=List.mem_filter.1 ht
    refine ⟨q1,fun d hd=>?_⟩
    rw [hd] at q2
    simpa using q2
   ·rcases hj.2 with (((h | h) | h) | h) | h
    ·exact .inl h
    ·exact .inr (.inl ⟨h.1,by rw [hmc]; exact h.2⟩)
    ·obtain ⟨id,hid⟩:=Y3l hsl h.1
     exact .inr (.inr (.inl ⟨by rw [hid]; rfl,by rw [hmc]; exact h.2⟩))
    ·refine .inr (.inr (.inr (.inl ⟨?_,h.2⟩)))
     have hl:=h.1
     unfold lateB at hl ⊢
     split at hl
     ·rename_i ty t e
      have hm : t ∈ ltR lt r1:=by
       refine Y3B (by simpa using hl) fun k hk d hd=>?_
       have:=(List.pairwise_cons.1 hp).1 k hk
       unfold nwB at this
       rw [e,hd] at this
       simp only [hl,Bool.not_true,Bool.false_or,Bool.not_eq_true',Bool.and_eq_true] at this
       exact this.1
      simpa using hm
     ·cases hl
    ·refine .inr (.inr (.inr (.inr ⟨?_,h.2.imp id (fun h=>by rw [hmc,h.1,h.2]; rfl)⟩)))
     have hl:=h.1
     unfold lateC at hl ⊢
     split at hl
     ·rename_i ty t e
      have hm : 1000000 + t ∈ ltR lt r1:=by
       refine Y3B (by simpa using hl) fun k hk d hd=>?_
       have:=(List.pairwise_cons.1 hp).1 k hk
       unfold nwB at this
       rw [e,hd] at this
       simp only [hl,Bool.not_true,Bool.false_or,Bool.not_eq_true',Bool.and_eq_true] at this
       exact this.2
      simpa using hm
     ·cases hl
  ·have hsepi : ∀ (lt : List Nat) (s : St),sepO lt i.op s:=by
    intro lt s
    have:=hj.1.1.1.1.1
    unfold slB at this
    unfold sepO
    split
    ·rename_i e; rw [e] at this; cases this
    ·trivial
   have nm : ∀ {op : Op},(mcl lt && mvB op) = false → mvB op = false ∨ sl.mc = false:=fun {op} h=>by
    rw [hmc]
    cases e : mvB op with
    | false=>exact .inl rfl
    | true=>rw [e,Bool.and_true] at h; exact .inr h
   have nmi:=nm (op:=i.op) (by simpa using hj.1.1.1.1.2)
   have nmj:=nm (op:=j.op) (by simpa using hj.1.1.2)
   refine Z0j (sl1:=sl) (sl2:=⟨sl.ns,ltR lt (j :: r1),sl.mc⟩) rfl rfl nmi (hsepi _) ?_
   exact Y6B hsl (Rsp.wpL hK _) ha hj.1.1.1.1.1 hj.1.1.1.2 nmi nmj (by simpa using hj.1.2) (by simpa using hj.2) (Y0t (fun s h=>Z0j (sl1:=⟨sl.ns,ltR lt r1,sl.mc⟩) (sl2:=sl) rfl rfl nmi (hsepi _) h) h1)
def bfr (rows : List (Nat × Nat)) : List Edge → Nat
 | []=>0
 | e :: es=>(if Region.binds .any e then (2 ^ e.on ||| (rows.lookup e.on).getD 0) else 0) ||| bfr rows es
def bfrs (ops : Array Oper) : List Nat → List (Nat × Nat) → List (Nat × Nat)
 | [],rows=>rows
 | i :: l,rows=>bfrs ops l ((i,match ops[i]? with | some o=>bfr rows o.after.toList | none=>0) :: rows)
def Bf (ops : Array Oper) (j i : Nat) : Prop:=∀ L : Nat → Prop,(∀ k o,ops[k]? = some o → L k → ∀ e ∈ o.after,Region.binds .any e = true → L e.on) →
 (∀ o,ops[i]? = some o → ∀ e ∈ o.after,Region.binds .any e = true → L e.on) → L j
theorem Y5n {rows : List (Nat × Nat)} {i : Nat} {o : Oper} (ho : ops[i]? = some o) (hr : ∀ k j,((rows.lookup k).getD 0).testBit j = true → Bf ops j k) : ∀ {es : List Edge},(∀ e ∈ es,e ∈ o.after) → ∀ j,(bfr rows es).testBit j = true → Bf ops j i
 | [],_,j,h=>by simp [bfr] at h
 | e :: es,hes,j,h=>by
  unfold bfr at h
  rw [Nat.testBit_or,Bool.or_eq_true] at h
  rcases h with h | h
  ·split at h
   ·rename_i hb
    rw [Nat.testBit_or,Bool.or_eq_true] at h
    rcases h with h | h
    ·rw [Nat.testBit_two_pow] at h
     obtain rfl : e.on = j:=by simpa using h
     exact fun L h1 h2=>h2 o ho e (hes e (by simp)) hb
    ·exact fun L h1 h2=>hr _ _ h L h1 fun o' ho'=>h1 _ _ ho' (h2 o ho e (hes e (by simp)) hb)
   ·simp at h
  ·exact Y5n ho hr (fun e he=>hes e (by simp [he])) j h
theorem Y2T : ∀ {l : List Nat} {rows : List (Nat × Nat)},(∀ k j,((rows.lookup k).getD 0).testBit j = true → Bf ops j k) → ∀ k j,(((bfrs ops l rows).lookup k).getD 0).testBit j = true → Bf ops j k
 | [],rows,hr=>hr
 | i :: l,rows,hr=>by
  unfold bfrs
  refine Y2T ?_
  intro k j h
  rw [List.lookup_cons] at h
  by_cases e : k = i
  ·subst e
   simp only [beq_self_eq_true,Option.getD_some] at h
   cases ho : ops[k]? with
   | none=>rw [ho] at h; simp at h
   | some o=>rw [ho] at h; exact Y5n ho hr (fun e he=>by simpa using he) j h
  ·have : (k == i) = false:=by simpa using e
   rw [this] at h
   exact hr k j h
def okP (ops : Array Oper) (ds lt : List Nat) (rows : List (Nat × Nat)) (j i : Nat) : Bool :=
 match ops[j]?,ops[i]? with
 | some oj,some oi=>!(Nat.beq j i) && !(oj.after.toList.any fun e=>Region.binds .any e && e.on == i) && nwB lt oj oi && (((rows.lookup i).getD 0).testBit j || swB ops ds lt oj oi)
 | _,_=>false
def okPs (ops : Array Oper) (ds lt : List Nat) (rows : List (Nat × Nat)) : List Nat → Bool
 | []=>true
 | j :: l=>l.all (okP ops ds lt rows j) && okPs ops ds lt rows l
def drwB (ops : Array Oper) (l ds lt : List Nat) : Bool :=
 let rows:=bfrs ops l []
 Nat.beq l.length ops.size && (List.range ops.size).all (fun i=>l.elem i) && l.all (fun i=>Nat.blt i ops.size) && okPs ops ds lt rows l &&
  (ops.toList.zipIdx.all fun p=>p.1.after.toList.all fun e=>Nat.blt e.on ops.size && !Nat.beq e.on p.2)
theorem Y2q {ds lt : List Nat} {rows : List (Nat × Nat)} : ∀ {l : List Nat},okPs ops ds lt rows l = true → l.Pairwise (fun j i=>okP ops ds lt rows j i = true)
 | [],_=>.nil
 | j :: l,h=>by
  unfold okPs at h
  simp only [Bool.and_eq_true,List.all_eq_true] at h
  exact .cons h.1 (Y2q h.2)
theorem Y8T {E : Env} {Q : Exit → Act → World → Prop} (hK : ∀ s a w,K s → CN E s a w → Q .normal a w) (hKr : Rsp K) {ds lt : List Nat} (hsm : sl.lt = lt) (hmc : sl.mc = mcl lt) (hsl : ∀ d ∈ ds,∃ id,sl.ns.lookup d = some id) {rows : List (Nat × Nat)} (hrows : ∀ k j,((rows.lookup k).getD 0).testBit j = true → Bf ops j k)
  (hd : ∀ (i : Nat) (o : Oper),ops[i]? = some o → ∀ t,o.dst = some t → t < E.N) (hin : ∀ (i : Nat) (o : Oper),ops[i]? = some o → ∀ e ∈ o.after,e.on < ops.size ∧ e.on ≠ i) :
  ∀ (fuel : Nat) (rem : List Nat) (listed : Array Bool) (a : Act) (w : World) (s : St),rem.length = fuel → rem.Nodup →
  listed.size = ops.size → (∀ i,i ∈ rem ↔ i < ops.size ∧ listed.getD i true = false) → (∀ (k : Nat) (o : Oper),ops[k]? = some o → listed.getD k false = true → ∀ e ∈ o.after,Region.binds .any e = true → listed.getD e.on false = true) →
  rem.Pairwise (fun j i=>okP ops ds lt rows j i = true) → CN E s a w → wpL P ops sl K (rem.filterMap (ops[·]?)) s → wpAny P .any ops Q fuel listed a w:=by
 intro fuel
 induction fuel with
 | zero =>
  intro rem listed a w s hlen hnd hsz hmem hcl hpw hc hq
  obtain rfl:=List.eq_nil_of_length_eq_zero hlen
  refine ⟨?_,hK s a w hq hc⟩
  apply List.eq_nil_iff_forall_not_mem.2
  intro i hi
  obtain ⟨h1,o,h2,_⟩:=mem_ready.1 hi
  exact absurd ((hmem i).2 ⟨(Array.getElem?_eq_some_iff.1 h2).1,h1⟩) (by simp)
 | succ fuel ih =>
  intro rem listed a w s hlen hnd hsz hmem hcl hpw hc hq
  have hget : ∀ i,i < ops.size → (listed.getD i true = listed.getD i false):=by
   intro i hi
   rw [Array.getD_eq_getD_getElem?,Array.getD_eq_getD_getElem?,Array.getElem?_eq_getElem (by omega)]; rfl
  refine ⟨?_, ?_⟩
  ·intro hr
   exfalso
   cases rem with
   | nil=>simp at hlen
   | cons h rem =>
    have hh:=(hmem h).1 (by simp)
    have : h ∈ Region.ready .any ops listed:=by
     rw [mem_ready]
     refine ⟨hh.2,ops[h],by simp [hh.1],fun e he hb=>?_⟩
     obtain ⟨e1,e2⟩:=hin h _ (by simp [hh.1]) e he
     cases hl : listed.getD e.on false with
     | true=>rfl
     | false =>
      exfalso
      have hm : e.on ∈ h :: rem:=(hmem _).2 ⟨e1,by rw [hget _ e1]; exact hl⟩
      simp only [List.mem_cons,e2,false_or] at hm
      have hp:=(List.pairwise_cons.1 hpw).1 _ hm
      unfold okP at hp
      rw [show ops[h]? = some ops[h] by simp [hh.1],show ops[e.on]? = some ops[e.on] by simp [e1]] at hp
      simp only [Bool.and_eq_true,Bool.not_eq_true',List.any_eq_false,beq_iff_eq] at hp
      exact hp.1.1.2 e (by simpa using he) ⟨hb,rfl⟩
    rw [hr] at this; cases this
  ·intro i hi
   obtain ⟨h1,o,h2,h3⟩:=mem_ready.1 hi
   have hlt : i < ops.size:=(Array.getElem?_eq_some_iff.1 h2).1
   have hmi : i ∈ rem:=(hmem i).2 ⟨hlt,h1⟩
   obtain ⟨r1,r2,rfl⟩:=List.append_of_mem hmi
   rw [List.filterMap_append,List.filterMap_cons,h2] at hq
   have hsw : ∀ oj ∈ r1.filterMap (ops[·]?),swB ops ds lt oj o = true:=by
    intro oj hoj
    obtain ⟨j,hj,hoj⟩:=List.mem_filterMap.1 hoj
    have hp:=(List.pairwise_append.1 hpw).2.2 j hj i (by simp)
    unfold okP at hp
    rw [hoj,h2] at hp
    simp only [Bool.and_eq_true,Bool.or_eq_true] at hp
    rcases hp.2 with hb | hb
    ·exfalso
     have hju:=(hmem j).1 (by simp [hj])
     have:=hrows _ _ hb (fun k=>listed.getD k false = true) hcl (fun o' ho' e he hb=>by
      rw [h2] at ho'; obtain rfl:=Option.some.inj ho'; exact h3 e he hb)
     rw [hget j hju.1] at hju
     rw [hju.2] at this; cases this
    ·exact hb
   have hnw : (r1.filterMap (ops[·]?)).Pairwise (fun j k=>nwB lt j k = true):=by
    refine List.pairwise_filterMap.2 ((List.pairwise_append.1 hpw).1.imp fun {j k} hp=>?_)
    intro oj hoj ok hok
    unfold okP at hp
    rw [hoj,hok] at hp
    simp only [Bool.and_eq_true] at hp
    exact hp.1.2
   have hq':=X9A hsm hmc hsl hKr hsw hnw hq
   rw [← List.filterMap_append] at hq'
   unfold wpOp
   rw [h2]
   refine Y2b (fun s' a' w' hk hc'=>?_) (hd i o h2) hc hq'
   have hnd':=List.nodup_append.1 hnd
   have hi1 : i ∉ r1:=fun h=>hnd'.2.2 i h i (by simp) rfl
   have hi2 : i ∉ r2:=(List.nodup_cons.1 hnd'.2.1).1
   refine ih (r1 ++ r2) _ a' w' s' (by simp at hlen ⊢; omega) ?_ (by simp [hsz]) ?_ ?_ ?_ hc' hk
   ·exact List.Sublist.nodup (List.Sublist.append (List.Sublist.refl _) (List.sublist_cons_self _ _)) hnd
   ·intro k
    by_cases hki : k = i
    ·subst hki
     simp only [List.mem_append,hi1,hi2,false_or,or_self,false_iff,not_and]
     intro _
     rw [Array.getD_eq_getD_getElem?,Array.getElem?_setIfInBounds_self_of_lt (by omega)]
     simp
    ·rw [getD_set_ne true (fun e=>hki e.symm),← hmem k]
     simp [hki]
   ·intro k o' ho' hk e he hb
    by_cases hki : k = i
    ·subst hki
     rw [h2] at ho'; obtain rfl:=Option.some.inj ho'
     exact getD_set_true (h3 e he hb)
    ·rw [getD_set_ne false (fun e=>hki e.symm)] at hk
     exact getD_set_true (hcl k o' ho' hk e he hb)
   ·exact hpw.sublist (List.Sublist.append (List.Sublist.refl _) (List.sublist_cons_self _ _))
theorem CN.drawn {E : Env} {s : St} {a : Act} {w : World} (h : CN E s a w) : CN E s a { w with drawn:=w.drawn + 1 }:=by
 obtain ⟨κ,S,uss,hc⟩:=h
 have hb : Below w.heap.size w w.drew:=(Below.refl _ _).drew
 have:=hc.toHp.grow (S':=S) hb (fun _ h=>h) (fun b h=>.inl h)
 refine ⟨κ,S,uss,this,fun t v ht=>?_,hc.df,hc.sz⟩
 exact Rep.ext (w:=w) (w':=w.drew) κ κ ⟨fun _ h=>h,fun _ h=>h,fun _ _ h=>h,fun _ _ h=>h,fun _ _ _=>rfl⟩ v _ [] (by simp) (hc.fr t v ht)
theorem Y5Y {E : Env} {Q : Exit → Act → World → Prop} (hm : P.follows .mixedOrders = true) (hK : ∀ s a w,K s → CN E s a w → Q .normal a w) (hKr : Rsp K) {id : Nat} {l ds lt : List Nat} (hlt : sl.lt = lt) (hmc : sl.mc = mcl lt) (hsl : ∀ d ∈ ds,∃ id,sl.ns.lookup d = some id) (hb : drwB ops l ds lt = true)
  (hd : ∀ o ∈ ops,∀ t,o.dst = some t → t < E.N) {s : St} {a : Act} {w : World} (hc : CN E s a w) (h : wpL P ops sl K (l.filterMap (ops[·]?)) s) : (Code.region id ops true).wp P Q a w:=by
 refine wp_region_any hm ?_
 unfold drwB at hb
 simp only [Bool.and_eq_true,List.all_eq_true,List.mem_range,Nat.beq_eq_true_eq,Bool.not_eq_true',List.elem_eq_mem,decide_eq_true_eq] at hb
 obtain ⟨⟨⟨⟨h1,h2⟩,h5⟩,h3⟩,h4⟩:=hb
 have h3:=Y2q h3
 have hnd : l.Nodup:=h3.imp fun {j i} h=>by
  rintro rfl
  unfold okP at h
  split at h
  ·simp at h
  ·cases h
 have hmem : ∀ i,i ∈ l → i < ops.size:=fun i hi=>by have:=h5 i hi; simp [Nat.blt] at this; omega
 refine Y8T (rows:=bfrs ops l []) hK hKr hlt hmc hsl ?_ (fun i o ho=>hd o (Array.mem_of_getElem? ho)) ?_ ops.size l _ a _ s (by simpa using h1) hnd (by simp) ?_ ?_ h3 hc.drawn h
 ·exact Y2T (by simp)
 ·intro i o ho e he
  have hlt:=(Array.getElem?_eq_some_iff.1 ho).1
  have:=h4 (o,i) (by rw [List.mem_zipIdx_iff_getElem?]; simpa using ho) e (by simpa using he)
  simp only [Bool.and_eq_true,Bool.not_eq_true'] at this
  refine ⟨by have:=this.1; simp [Nat.blt] at this; omega,fun e=>?_⟩
  rw [e] at this
  simp at this
 ·intro i
  constructor
  ·intro hi
   have:=hmem i hi
   refine ⟨this, ?_⟩
   rw [Array.getD_eq_getD_getElem?,Array.getElem?_replicate,if_pos this]; rfl
  ·exact fun hi=>h2 i hi.1
 ·intro k o ho hk
  exfalso
  rw [Array.getD_eq_getD_getElem?,Array.getElem?_replicate] at hk
  split at hk <;> simp at hk
end
def tmap (P : Program) (t : TypeId) : Option (TypeId × TypeId) :=
 match P.underlying t with
 | some (.map k e)=>some (k,e)
 | _=>none
def mpGet (k : IntKind) (n : Int) : List V → Option (Option V)
 | .lit (.int k' m) :: v :: cs=>if k = k' then (if n = m then some (some v) else mpGet k n cs) else none
 | []=>some none
 | _=>none
def mupC (P : Program) (t : TypeId) (m k x : V) (H : List Ob) (K : V → List Ob → Prop) : Prop :=
 match m with
 | .mp id=>∃ ke e q kk n ob,tmap P t = some (ke,e) ∧ tint P ke = some q ∧ k = .lit (.int kk n) ∧ q = kk ∧ H[id]? = some ob ∧ ob.st = .mp ∧ mpGet kk n ob.cs = some none ∧ K .any (H.set id { ob with cs:=ob.cs ++ [k,x] })
 | _=>False
def mlkC (P : Program) (t : TypeId) (m k : V) (H : List Ob) (K : V → List Ob → Prop) : Prop :=
 match m with
 | .mp id=>∃ ke e q kk n ob,tmap P t = some (ke,e) ∧ tint P ke = some q ∧ k = .lit (.int kk n) ∧ q = kk ∧ H[id]? = some ob ∧ ob.st = .mp ∧
   ((∃ v,mpGet kk n ob.cs = some (some v) ∧ v.nu ∧ K (.tup [v,.lit (.bool true)]) H) ∨ (mpGet kk n ob.cs = some none ∧ (tzer P e).isSome = true ∧ K (.tup [.any,.lit (.bool false)]) H))
 | _=>False
section
variable {P : Program} {E : Env} {o : Oper} {w : World} {H : List Ob} {ρ : Operand → V} {K : V → List Ob → Prop}
theorem Q9Y {S B : BS} {κ : KM} {k : IntKind} {n : Int} {us : List Nat} : ∀ {es : List MapEntry} {cs : List V} {us : List Nat} {r : Option V} (i : Nat),RepL w S B κ cs (es.flatMap fun e=>[e.key,e.val]) us → mpGet k n cs = some r →
  (r = none ∧ Instr.findNow (.int k) (.int k n) es i = some none) ∨ ∃ v j x u,r = some v ∧ Instr.findNow (.int k) (.int k n) es i = some (some (j,x)) ∧ (∀ b ∈ u,b ∈ us) ∧ Rep w S B κ v x u
 | [],cs,us,r,i,h,hg=>by
  cases cs with
  | nil=>left; exact ⟨by simpa [mpGet] using hg.symm,rfl⟩
  | cons c cs=>obtain ⟨x,xs',u1,u2,h1,_⟩:=h; cases h1
 | e :: es,cs,us,r,i,h,hg=>by
  cases cs with
  | nil=>obtain ⟨h1,_⟩:=h; cases h1
  | cons c cs =>
   obtain ⟨x,xs',u1,u2,h1,rfl,h3,h4⟩:=h
   cases cs with
   | nil=>obtain ⟨h5,_⟩:=h4; subst h5; simp at h1
   | cons v cs =>
    obtain ⟨y,ys,u3,u4,h5,rfl,h6,h7⟩:=h4
    subst h5
    simp only [List.flatMap_cons,List.cons_append,List.nil_append,List.cons.injEq] at h1
    obtain ⟨rfl,rfl,rfl⟩:=h1
    unfold mpGet at hg
    split at hg
    ·rename_i k' m v' cs' hc
     simp only [List.cons.injEq] at hc
     obtain ⟨rfl,rfl,rfl⟩:=hc
     obtain ⟨rfl,hx,_⟩:=h3
     split at hg
     ·rename_i hk
      subst hk
      split at hg
      ·rename_i hn
       subst hn
       obtain rfl:=Option.some.inj hg
       refine .inr ⟨v,i,e.val,u3,rfl, ?_,fun b hb=>by simp [hb],h6⟩
       simp [Instr.findNow,hx,Instr.sameNow]
      ·rename_i hn
       have hs : Instr.findNow (.int k) (.int k n) (e :: es) i = Instr.findNow (.int k) (.int k n) es (i + 1):=by
        have hb : (n == m) = false:=by simpa using hn
        simp [Instr.findNow,hx,Instr.sameNow,hb]
       rw [hs]
       rcases Q9Y (us:=us) (i + 1) h7 hg with h | ⟨v',j,z,u,q1,q2,q3,q4⟩
       ·exact .inl h
       ·exact .inr ⟨v',j,z,u,q1,q2,fun b hb=>by simp [q3 b hb],q4⟩
     ·cases hg
    ·cases ‹_ :: _ = []›
    ·cases hg
theorem Y0o {t k e : TypeId} (h : tmap P t = some (k,e)) : P.underlying t = some (.map k e):=by
 unfold tmap at h
 split at h
 ·cases h; assumption
 ·cases h
theorem Q9Q {t : TypeId} {q : IntKind} (h : tint P t = some q) : P.underlying t = some (.int q):=by
 unfold tint at h
 split at h
 ·cases h; assumption
 ·cases h
theorem Hp.mpo {κ : KM} {S : BS} {uss : List (List Nat)} (h : Hp E H w κ S uss) {id b : Nat} {ob : Ob} (hi : H[id]? = some ob) (hst : ob.st = .mp) (hk : kat κ id = some (some b)) :
  uss[id]? = some [b] ∧ ∃ es ck,w.heap[b]? = some (.map es ck) ∧ RepL w S E.B κ ob.cs (es.toList.flatMap fun e=>[e.key,e.val]) []:=by
 have hlt:=(List.getElem?_eq_some_iff.1 hi).1
 have l2 : id < uss.length:=by rw [h.ul]; exact hlt
 have h2 : uss[id]? = some uss[id]:=List.getElem?_eq_getElem l2
 have hr:=h.ob id ob _ _ hi hk h2
 obtain ⟨st,ty,cs⟩:=ob
 obtain rfl : st = .mp:=hst
 obtain ⟨b',es,ck,h3,h4,h5,h6⟩:=hr
 obtain rfl:=Option.some.inj h3
 exact ⟨by rw [h2,h4],es,ck,h5,h6⟩
theorem Y7z {t : TypeId} (ho : o.op = .makeMap t none) (hq : K (.mp H.length) (H ++ [⟨.mp,t,[]⟩])) : ∃ v H',K v H' ∧ ∀ {E : Env} {a : Act} {w : World} {κ : KM} {S : BS} {uss : List (List Nat)},Sees E H ρ a w κ S uss → VOk P E o a w κ S v H':=by
 refine ⟨_,_,hq,fun {E a w κ S uss} hc=>?_⟩
 have hb:=Q0M w (.map #[] 0)
 have hg : (w.alloc (.map #[] 0)).heap[w.heap.size]? = some (.map #[] 0):=(MapKept.heap_alloc w _).1
 have hlt : w.heap.size < (w.alloc (.map #[] 0)).heap.size:=(Array.getElem?_eq_some_iff.1 hg).1
 have hm : Hp E (H ++ [⟨.mp,t,[]⟩]) (w.alloc (.map #[] 0)) (κ ++ [some (some w.heap.size)]) S (uss ++ [[w.heap.size]]):=by
  refine (hc.toHp.grow hb (fun _ h=>h) (fun _ h=>.inl h)).push (k:=some w.heap.size) (us:=[w.heap.size]) ?_ (by simp) ?_
  ·exact ⟨w.heap.size,#[],0,rfl,rfl,hg,rfl,rfl⟩
  ·intro b hb'
   obtain rfl : b = w.heap.size:=by simpa using hb'
   refine ⟨fun hs=>by have:=hc.sb _ hs; omega,fun hB=>by have:=hc.bnd _ (.inr hB); omega,hlt,.inl hc.kp.size,fun hm=>by have:=(hc.ow _ hm).2.2.1; omega⟩
 refine VOk.val hc (x:=.map (some w.heap.size)) ?_ (Q0U hc.toHp hb) hm ⟨rfl,w.heap.size, ?_,rfl⟩
 ·simp [execOp,ho,Instr.makeMap,Result.andThen]
 ·rw [← hc.kl]; exact Q1o κ _
theorem Y7x {t : TypeId} {m k x : Operand} (ho : o.op = .mapUpdate t m k x) (hq : mupC P t (ρ m) (ρ k) (ρ x) H K) : ∃ v H',K v H' ∧ ∀ {E : Env} {a : Act} {w : World} {κ : KM} {S : BS} {uss : List (List Nat)},Sees E H ρ a w κ S uss → VOk P E o a w κ S v H':=by
 unfold mupC at hq
 split at hq
 ·rename_i id hm
  obtain ⟨ke,e,q,kk,n,ob,ht,hke,hkv,rfl,hi,hst,hget,hK⟩:=hq
  refine ⟨_,_,hK,fun {E a w κ S uss} hcn=>?_⟩
  have hmv:=hcn.ev m
  rw [hm] at hmv
  obtain ⟨_,b,hkb,hmv⟩:=hmv
  have hkv':=hcn.ev k
  have hkr:=hkv'
  rw [hkv] at hkv'
  obtain ⟨_,hkv',_⟩:=hkv'
  obtain ⟨hus,es,ck,hb,hrep⟩:=hcn.toHp.mpo hi hst hkb
  have hfind : Instr.findNow (.int q) (.int q n) es.toList 0 = some none:=by
   rcases Q9Y (us:=[]) 0 hrep hget with ⟨_,h⟩ | ⟨v,j,x,u,h,_⟩
   ·exact h
   ·cases h
  have hbm : b ∈ uss.flatten:=List.mem_flatten.2 ⟨_,List.mem_of_getElem? hus,by simp⟩
  obtain ⟨hgS,hgB,hglt,hgw⟩:=hcn.ow b hbm
  generalize hw' : ({ w with heap:=w.heap.setIfInBounds b (.map (es.push { key:=a.eval k,val:=a.eval x,born:=ck }) (ck + 1)) } : World) = w'
  have hrun : (execOp a.eval o).run P w = .ok .skip w':=by
   rw [← hw']
   simp only [execOp,ho,hmv,hkv',Instr.mapUpdate,Sem.run_bind,run_underlying (Y0o ht),MapKept.run_getObj_map hb,MapKept.run_checkKey (Q9Q hke) (k:=.int q n) rfl false 9999,MapKept.run_findKey (Q9Q hke) hfind,Result.andThen_ok,MapKept.run_setObj_map _ hb,Sem.run_pure,Result.andThen]
  have hset:=MapKept.heap_set (o':=.map (es.push { key:=a.eval k,val:=a.eval x,born:=ck }) (ck + 1)) hb
  have hh : w'.heap = w.heap.setIfInBounds b (.map (es.push { key:=a.eval k,val:=a.eval x,born:=ck }) (ck + 1)):=by rw [← hw']
  have hother : ∀ k,k ≠ b → w'.heap[k]? = w.heap[k]?:=by rw [hh]; exact hset.2
  have hself:=hset.1
  rw [← hh] at hself
  have hsz : w'.heap.size = w.heap.size:=by rw [hh]; simp
  have hroom : ∀ b' k,room w b' k → room w' b' k:=by
   intro b' k hr
   by_cases e : b' = b
   ·subst e
    obtain ⟨a1,t1,h1,h2⟩:=hr
    rw [hb] at h1; cases h1
   ·exact Q1r (hother b' e) hr
  have hext : Ext w w' S S E.B E.B κ κ:=⟨fun _ h=>h,fun _ h=>h,fun _ _ h=>h,hroom,fun b' hb' o=>World.cell?_of_block (w:=w) (hother b' (by
   rintro rfl
   rcases hb' with hb' | hb'
   ·exact hgS hb'
   ·exact hgB hb'))⟩
  have hp' : Hp E (H.set id { ob with cs:=ob.cs ++ [ρ k,ρ x] }) w' κ S uss:={
   kl:=by simp [hcn.kl]
   al:=by
    intro i ob' h1 st
    rw [List.getElem?_set] at h1
    by_cases e : id = i
    ·subst e; exact ⟨_,hkb⟩
    ·simp only [e,if_false] at h1
     exact hcn.al i ob' h1 st
   ul:=by simp [hcn.ul]
   ob:=by
    intro i ob' k' us h1 h2 h3
    rw [List.getElem?_set] at h1
    by_cases e : id = i
    ·subst e
     simp only [if_true] at h1
     split at h1
     ·obtain rfl:=Option.some.inj h1
      obtain ⟨st,ty,cs⟩:=ob
      obtain rfl : st = .mp:=hst
      rw [hkb] at h2
      obtain rfl:=Option.some.inj h2
      rw [hus] at h3
      obtain rfl:=Option.some.inj h3
      refine ⟨b,_,_,rfl,rfl,hself, ?_⟩
      have e1 : ((es.push { key:=a.eval k,val:=a.eval x,born:=ck }).toList.flatMap fun e=>[e.key,e.val]) = (es.toList.flatMap fun e=>[e.key,e.val]) ++ [a.eval k,a.eval x]:=by simp
      rw [e1]
      exact (RepL.ext κ κ hext _ _ _ (by simp) hrep).nils ⟨_,_,[],[],rfl,rfl,Rep.ext κ κ hext _ _ _ (by simp) hkr,_,_,[],[],rfl,rfl,Rep.ext κ κ hext _ _ _ (by simp) (hcn.ev x),rfl,rfl⟩
     ·cases h1
    ·simp only [e,if_false] at h1
     refine (hcn.ob i ob' k' us h1 h2 h3).ext hext ?_
     intro b' hb'
     refine hother b' ?_
     rintro rfl
     rcases hb' with hb' | hb'
     ·exact hgS hb'
     ·exact Q0j hcn.nd hus h3 e b' (by simp) hb'
   nd:=hcn.nd
   ow:=by intro b' hb'; rw [hsz]; exact hcn.ow b' hb'
   sb:=by intro b' hb'; rw [hsz]; exact hcn.sb b' hb'
   s0:=hcn.s0
   s1:=hcn.s1
   bb:=hcn.bb
   kk:=hcn.kk
   kp:=⟨by rw [← hw']; exact hcn.kp.os,by rw [← hw']; exact hcn.kp.tape,by rw [← hw']; exact hcn.kp.output,by rw [hsz]; exact hcn.kp.size,fun k hk hm=>(hother k (by
    rintro rfl
    rcases hgw with hw | hw
    ·omega
    ·exact hm hw)).trans (hcn.kp.block k hk hm),fun b n hr=>hroom b n (hcn.kp.rm b n hr)⟩ }
  intro Kr Q hKr
  unfold Oper.wp
  rw [hrun]
  exact hKr _ _ _ _ _ hext hp' rfl
 ·exact hq.elim
theorem Y7A {t : TypeId} {m k : Operand} (ho : o.op = .lookup t m k true) (hq : mlkC P t (ρ m) (ρ k) H K) : ∃ v H',K v H' ∧ ∀ {E : Env} {a : Act} {w : World} {κ : KM} {S : BS} {uss : List (List Nat)},Sees E H ρ a w κ S uss → VOk P E o a w κ S v H':=by
 unfold mlkC at hq
 split at hq
 ·rename_i id hm
  obtain ⟨ke,e,q,kk,n,ob,ht,hke,hkv,rfl,hi,hst,hq⟩:=hq
  have pre : ∀ {E : Env} {a : Act} {w : World} {κ : KM} {S : BS} {uss : List (List Nat)},Sees E H ρ a w κ S uss → ∃ b es ck,a.eval m = .map (some b) ∧ a.eval k = .int q n ∧ w.heap[b]? = some (.map es ck) ∧ RepL w S E.B κ ob.cs (es.toList.flatMap fun e=>[e.key,e.val]) []:=by
   intro E a w κ S uss hcn
   have hmv:=hcn.ev m
   rw [hm] at hmv
   obtain ⟨_,b,hkb,hmv⟩:=hmv
   have hkv':=hcn.ev k
   rw [hkv] at hkv'
   obtain ⟨_,hkv',_⟩:=hkv'
   obtain ⟨hus,es,ck,hb,hrep⟩:=hcn.toHp.mpo hi hst hkb
   exact ⟨b,es,ck,hmv,hkv',hb,hrep⟩
  have hext : ∀ {w : World} {S B : BS} {κ : KM},Ext w w S S B B κ κ:=⟨fun _ h=>h,fun _ h=>h,fun _ _ h=>h,fun _ _ h=>h,fun _ _ _=>rfl⟩
  rcases hq with ⟨v,hget,hnu,hK⟩ | ⟨hget,hz,hK⟩
  ·refine ⟨_,_,hK,fun {E a w κ S uss} hcn=>?_⟩
   obtain ⟨b,es,ck,hmv,hkv',hb,hrep⟩:=pre hcn
   rcases Q9Y (us:=[]) 0 hrep hget with ⟨h,_⟩ | ⟨v',j,x,u,h,hf,hu,hr⟩
   ·cases h
   ·obtain rfl:=Option.some.inj h
    obtain rfl : u = []:=by cases u with | nil=>rfl | cons z zs=>exact absurd (hu z (by simp)) (by simp)
    refine VOk.val hcn (x:=.tuple #[x,.bool true]) ?_ hext hcn.toHp ⟨#[x,.bool true],rfl,x,[.bool true],[],[],rfl,rfl,hr,.bool true,[],[],[],rfl,rfl,⟨rfl,rfl,rfl⟩,rfl,rfl⟩
    simp only [execOp,ho,hmv,hkv',Instr.lookup,Sem.run_bind,run_underlying (Y0o ht),MapKept.run_getObj_map hb,MapKept.run_checkKey (Q9Q hke) (k:=.int q n) rfl _ 9999,MapKept.run_findKey (Q9Q hke) hf,Result.andThen_ok,Sem.run_pure,Result.andThen,if_true]
  ·refine ⟨_,_,hK,fun {E a w κ S uss} hcn=>?_⟩
   obtain ⟨b,es,ck,hmv,hkv',hb,hrep⟩:=pre hcn
   rcases Q9Y (us:=[]) 0 hrep hget with ⟨_,hf⟩ | ⟨v',j,x,u,h,hf,hu,hr⟩
   ·obtain ⟨z,hz⟩:=Option.isSome_iff_exists.1 hz
    obtain ⟨i,zv,hi',hzv,_⟩:=Q1f hz
    refine VOk.val hcn (x:=.tuple #[zv,.bool false]) ?_ hext hcn.toHp ⟨#[zv,.bool false],rfl,zv,[.bool false],[],[],rfl,rfl,rfl,.bool false,[],[],[],rfl,rfl,⟨rfl,rfl,rfl⟩,rfl,rfl⟩
    simp only [execOp,ho,hmv,hkv',Instr.lookup,Sem.run_bind,run_underlying (Y0o ht),MapKept.run_getObj_map hb,MapKept.run_checkKey (Q9Q hke) (k:=.int q n) rfl _ 9999,MapKept.run_findKey (Q9Q hke) hf,Result.andThen_ok,Sem.run_pure,Result.andThen,if_true,zeroValue,typeInfo,hi',hzv]
    first | done | simp [hi',hzv,Result.andThen]
   ·cases h
 ·exact hq.elim
theorem Y7y {t : TypeId} {m k x : V} {K K' : V → List Ob → Prop} (hK : ∀ v H,K v H → K' v H) (h : mupC P t m k x H K) : mupC P t m k x H K':=by
 unfold mupC at *
 split at h
 ·obtain ⟨ke,e,q,kk,n,ob,h1,h2,h3,h4,h5,h6,h7,h8⟩:=h
  exact ⟨ke,e,q,kk,n,ob,h1,h2,h3,h4,h5,h6,h7,hK _ _ h8⟩
 ·exact h
theorem Y7B {t : TypeId} {m k : V} {K K' : V → List Ob → Prop} (hK : ∀ v H,K v H → K' v H) (h : mlkC P t m k H K) : mlkC P t m k H K':=by
 unfold mlkC at *
 split at h
 ·obtain ⟨ke,e,q,kk,n,ob,h1,h2,h3,h4,h5,h6,h7⟩:=h
  exact ⟨ke,e,q,kk,n,ob,h1,h2,h3,h4,h5,h6,h7.imp (fun ⟨v,a,b,c⟩=>⟨v,a,b,hK _ _ c⟩) (fun ⟨a,b,c⟩=>⟨a,b,hK _ _ c⟩)⟩
 ·exact h
end
section
variable {P : Program} {E : Env} {o : Oper} {w : World} {H : List Ob} {ρ : Operand → V} {K : V → List Ob → Prop}
theorem Y3L {a : Act} {κ : KM} {S : BS} {uss : List (List Nat)} (hcn : Sees E H ρ a w κ S uss) {b id : Nat} {arr arr' : Array Value} {u : List Nat} {tyb : TypeId} (hus : uss[id]? = some (b :: u)) (hg : w.heap[b]? = some (.cells arr tyb (0,0))) (hsize : arr'.size = arr.size) :
  Ext w (w.setRow b arr') S S E.B E.B κ κ:=by
 have hgm : b ∈ uss.flatten:=List.mem_flatten.2 ⟨_,List.mem_of_getElem? hus,by simp⟩
 obtain ⟨hgS,hgB,hglt,hgw⟩:=hcn.ow b hgm
 refine ⟨fun _ h=>h,fun _ h=>h,fun _ _ h=>h, ?_, ?_⟩
 ·intro b' k hr
  by_cases e : b' = b
  ·subst e
   obtain ⟨a1,t1,q1,q2⟩:=hr
   rw [hg] at q1
   simp only [Option.some.injEq,Obj.cells.injEq] at q1
   exact ⟨_,tyb,setRow_heap w b' arr _ tyb (0,0) hg,by rw [hsize,q1.1]; exact q2⟩
  ·exact Q1r (setRow_other w b b' _ e) hr
 ·intro b' hb' o'
  refine World.cell?_of_block (w:=w) (setRow_other w b b' _ ?_)
  rintro rfl
  rcases hb' with hb' | hb'
  ·exact hgS hb'
  ·exact hgB hb'
theorem Y8w {x y : Operand} {t e : TypeId} {id i k sz : Nat} {A X B : List V} {ob : Ob} (ho : o.op = .call { callee:=.builtin .append,args:=#[x,y],argTypes:=#[t,t] })
  (ht : tsl P t = some (e,sz)) (hsp : 0 < sz) (hx : ρ x = .rsl id sz 0 i) (hy : (k = 0 ∧ ρ y = .sl .s sz 0 []) ∨ ρ y = .rsl id sz (i + 1) k) (hoi : H[id]? = some ob) (host : ob.st = .own)
  (hcs : ob.cs = A ++ X ++ B) (hA : A.length = i * sz) (hX : X.length = sz) (hB : B.length = k * sz) (hcell : ∀ c ∈ B,c.cell)
  {a : Act} {κ : KM} {S : BS} {uss : List (List Nat)} (hcn : Sees E H ρ a w κ S uss) : VOk P E o a w κ S (.rsl id sz 0 (i + k)) (H.set id { ob with cs:=A ++ B }):=by
 obtain ⟨hu,hsz⟩:=Q0h ht
 obtain ⟨i',hi,rfl⟩:=Q2e hsz
 have hex : ∀ {sv : Value} {v' : Value} {w' : World},a.eval x = sv → (Builtin.append_ #[t,t] o.type #[sv,a.eval y]).run P w = .ok v' w' → (execOp a.eval o).run P w = .ok (.value v') w':=by
  intro sv v' w' hs hr
  subst hs
  simp [execOp,ho,resolve,invoke,builtin,hr]
 have hxv:=hcn.ev x
 rw [hx] at hxv
 obtain ⟨_,hxv⟩:=hxv
 rcases hcn.toHp.own hoi host with ⟨hk0,hcs0,hus0⟩ | ⟨b,arr,u,hkb,hus,hgb,hm⟩
 ·rw [hcs] at hcs0
  have:=congrArg List.length hcs0
  simp only [List.length_append,List.length_nil] at this
  omega
 have hgb0:=hgb
 obtain ⟨tyb,hg⟩:=hgb0
 obtain ⟨c,hc,hnc,hcm,hroom⟩ : ∃ c,a.eval x = .slice (some ⟨b,0,none⟩) i c ∧ i ≤ c ∧ c ≤ maxLen ∧ room w b (0 * i'.size + c * i'.size):=by
  rcases hxv with ⟨hk,_⟩ | ⟨b',c,hk,hv,h1,h2,h3⟩
  ·rw [hkb] at hk; cases hk
  ·obtain rfl : b = b':=by rw [hkb] at hk; simpa using hk
   exact ⟨c,by simpa using hv,h1,h2,h3⟩
 have harr : arr.size = c * i'.size:=by
  obtain ⟨a1,t1,q1,q2⟩:=hroom
  rw [hg] at q1
  simp only [Option.some.injEq,Obj.cells.injEq] at q1
  rw [q1.1]; simpa using q2.symm
 obtain ⟨xs,f1,f2,f3⟩:=hm.vals
 rw [hcs] at f1 f3
 obtain ⟨xab,xb,uab,ub,rfl,rfl,f4,f5⟩:=RepL.append.1 f3
 obtain ⟨xa,xx,ua,ux,rfl,rfl,f6,f7⟩:=RepL.append.1 f4
 have la:=f6.length
 have lx:=f7.length
 have lb:=f5.length
 have hfits : (xa ++ xx ++ xb).length ≤ arr.size:=by
  rcases Nat.eq_zero_or_pos (xa ++ xx ++ xb).length with h0 | h0
  ·omega
  ·have h1 : (xa ++ xx ++ xb).length - 1 < (xa ++ xx ++ xb).length:=by omega
   have:=f2 ((xa ++ xx ++ xb).length - 1) _ (List.getElem?_eq_getElem h1)
   rw [Nat.zero_add,cell_of_row w b _ arr tyb (0,0) hg] at this
   have:=(Array.getElem?_eq_some_iff.1 this).1
   omega
 have hlen : (xa ++ xx ++ xb).length = (i + 1 + k) * i'.size:=by
  simp only [List.length_append,Nat.add_mul,Nat.one_mul]; omega
 have hik : i + 1 + k ≤ c:=by
  rw [hlen,harr] at hfits
  exact Nat.le_of_mul_le_mul_right hfits hsp
 have hrep : RepL w S E.B κ (A ++ B) (xa ++ xb) (ua ++ ub):=RepL.append.2 ⟨xa,xb,ua,ub,rfl,rfl,f6,f5⟩
 have hsub : List.Sublist (ua ++ ub) (ua ++ ux ++ ub):=List.Sublist.append (List.sublist_append_left ua ux) (List.Sublist.refl ub)
 have hval : ∀ {w' : World},room w' b (0 * i'.size + c * i'.size) → Rep w' S E.B κ (.rsl id i'.size 0 (i + k)) (.slice (some ⟨b,0,none⟩) (i + k) c) []:=fun hr=>⟨rfl,.inr ⟨b,c,hkb,by simp,by omega,hcm,hr⟩⟩
 by_cases hk : k = 0
 ·subst hk
  have hB0 : B = []:=List.eq_nil_of_length_eq_zero (by rw [hB,Nat.zero_mul])
  subst hB0
  have hxb : xb = []:=List.eq_nil_of_length_eq_zero (by rw [List.length_nil] at lb; omega)
  subst hxb
  obtain ⟨bo2,c2,hyv⟩ : ∃ bo2 c2,a.eval y = .slice bo2 0 c2:=by
   have hyv:=hcn.ev y
   rcases hy with ⟨_,hy⟩ | hy
   ·rw [hy] at hyv
    obtain ⟨a',c',h,_⟩:=hyv
    exact ⟨a',c',h⟩
   ·rw [hy] at hyv
    obtain ⟨_,⟨_,_,_,a',h⟩ | ⟨b',c',_,h,_⟩⟩:=hyv
    ·exact ⟨a',0,h⟩
    ·exact ⟨_,c',h⟩
  have hrun:=hex hc (by rw [hyv]; exact Q0T hu hi _ i c hnc bo2 c2 _)
  have hw:=hcn.toHp.wrote (arr':=arr) hoi host hkb hus hgb rfl hsub hrep (fun j v hj=>by
   have hlt:=(List.getElem?_eq_some_iff.1 hj).1
   have h2:=f2 j v (by
    rw [List.append_nil] at hj hlt ⊢
    rw [List.getElem?_append_left hlt]; exact hj)
   rw [Nat.zero_add,cell_of_row w b j arr tyb (0,0) hg] at h2; exact h2)
  have hself : w.setRow b arr = w:=setRow_self w b arr tyb (0,0) hg
  rw [hself] at hw
  exact VOk.val hcn hrun ⟨fun _ h=>h,fun _ h=>h,fun _ _ h=>h,fun _ _ h=>h,fun _ _ _=>rfl⟩ hw (hval hroom)
 ·obtain ⟨c2,hyv⟩ : ∃ c2,a.eval y = .slice (some ⟨b,(i + 1) * i'.size,none⟩) k c2:=by
   have hyv:=hcn.ev y
   rcases hy with ⟨h,_⟩ | hy
   ·exact absurd h hk
   ·rw [hy] at hyv
    obtain ⟨_,⟨h,_⟩ | ⟨b',c',h1,h,_⟩⟩:=hyv
    ·rw [hkb] at h; cases h
    ·obtain rfl : b = b':=by rw [hkb] at h1; simpa using h1
     exact ⟨c',h⟩
  have hxl : xb.length = k * i'.size:=by omega
  have hrange : w.rangeAt b ((i + 1) * i'.size) xb:=by
   intro j v hj
   have h2:=f2 ((i + 1) * i'.size + j) v (by
    rw [List.getElem?_append_right (by simp only [List.length_append,Nat.add_mul,Nat.one_mul]; omega)]
    rw [show (i + 1) * i'.size + j - (xa ++ xx).length = j by simp only [List.length_append,Nat.add_mul,Nat.one_mul]; omega]
    exact hj)
   rw [Nat.zero_add] at h2; exact h2
  have hfit : i * i'.size + xb.length ≤ arr.size:=by
   rw [hxl,harr,← Nat.add_mul]; exact Nat.mul_le_mul_right _ (by omega)
  have hone : ∀ v ∈ xb,v.oneCell' = true:=RepL.cell hcell f5
  have hrun:=X2t (P:=P) (w:=w) (ty:=o.type) (c2:=c2) (a:=⟨b,(i + 1) * i'.size,none⟩) hu hi hg hxl (Q1x hrange) hone (show i + k ≤ c by omega) hfit
  have hrun':=hex hc (by rw [hyv]; exact hrun)
  have hsz' : (arr.toList.take (i * i'.size) ++ xb ++ arr.toList.drop (i * i'.size + xb.length)).toArray.size = arr.size:=by
   simp only [List.size_toArray,List.length_append,List.length_take,List.length_drop,Array.length_toList]
   omega
  have hcont : ∀ (j : Nat) (v : Value),(xa ++ xb)[j]? = some v → (arr.toList.take (i * i'.size) ++ xb ++ arr.toList.drop (i * i'.size + xb.length)).toArray[j]? = some v:=by
   intro j v hj
   have hta : (arr.toList.take (i * i'.size)).length = i * i'.size:=by simp; omega
   have hj':=(List.getElem?_eq_some_iff.1 hj).1
   rw [List.length_append] at hj'
   rw [List.getElem?_toArray,List.append_assoc]
   by_cases h1 : j < i * i'.size
   ·rw [List.getElem?_append_left (by omega)] at hj
    rw [List.getElem?_append_left (by omega),List.getElem?_take,if_pos h1,Array.getElem?_toList]
    have:=f2 j v (by rw [List.append_assoc,List.getElem?_append_left (by omega)]; exact hj)
    rwa [Nat.zero_add,cell_of_row w b j arr tyb (0,0) hg] at this
   ·rw [List.getElem?_append_right (by omega)] at hj
    rw [List.getElem?_append_right (by omega),List.getElem?_append_left (by omega),hta,show i * i'.size = xa.length by omega]
    exact hj
  have hw:=hcn.toHp.wrote hoi host hkb hus hgb hsz' hsub hrep hcont
  have hext:=Y3L hcn hus hg hsz'
  intro Kr Q hKr
  unfold Oper.wp
  rw [hrun']
  exact hKr _ _ _ _ _ hext hw (hval (hext.r _ _ hroom))
def ic (l : List Int) : List V:=l.map fun i=>.lit (.int .i64 i)
theorem Y8b {l : List Int} : (ic l).length = l.length:=by simp [ic]
def cpyC (P : Program) (t : TypeId) (vx vy : V) (H : List Ob) (K : V → List Ob → Prop) : Prop :=
 match vx,vy with
 | .rsl id sz 0 n,.sl f sz' m cs=>sz = 1 ∧ sz' = 1 ∧ m ≤ n ∧ ∃ e l L ob,tsl P t = some (e,1) ∧ cs = ic l ∧ l.length = m ∧ H[id]? = some ob ∧ ob.st = .own ∧ ob.cs = ic L ∧ L.length = n ∧ K (.lit (.int .i64 m)) (H.set id { ob with cs:=ic (l ++ L.drop m) })
 | _,_=>False
def clrC (P : Program) (t : TypeId) (vx : V) (H : List Ob) (K : V → List Ob → Prop) : Prop :=
 match vx with
 | .rsl id sz 0 n=>sz = 1 ∧ ∃ e L ob,tsl P t = some (e,1) ∧ tzer P e = some [.lit (.int .i64 0)] ∧ H[id]? = some ob ∧ ob.st = .own ∧ ob.cs = ic L ∧ L.length = n ∧ K (.tup []) (H.set id { ob with cs:=ic (List.replicate n 0) })
 | _=>False
theorem Y0w {t1 t2 e ty : TypeId} {i : TypeInfo} (hu : P.underlying t1 = some (.slice e)) (hi : P.info? e = some i) (b b2 : Option Addr) (n c c2 : Nat) :
  (Builtin.copy_ #[t1,t2] ty #[.slice b n c,.slice b2 0 c2]).run P w = .ok (goInt 0) w:=by
 cases b <;> cases b2 <;> simp [Builtin.copy_,run_underlying hu,Builtin.lenOf,Builtin.firstCells,sizeOf,typeInfo,hi,loadCells,loadCellsFrom,storeCells]
theorem Y6W {S B : BS} {κ : KM} {l : List Int} {xs : List Value} {us : List Nat} (h : RepL w S B κ (ic l) xs us) : xs = l.map (fun i=>Value.int .i64 i) ∧ us = []:=by
 induction l generalizing xs us with
 | nil=>exact h
 | cons a l ih =>
  obtain ⟨x,xs',u1,u2,rfl,rfl,⟨rfl,rfl,_⟩,h2⟩:=h
  obtain ⟨rfl,rfl⟩:=ih h2
  exact ⟨rfl,rfl⟩
theorem Y4D {S B : BS} {κ : KM} {l : List Int} : RepL w S B κ (ic l) (l.map (fun i=>Value.int .i64 i)) []:=by
 induction l with
 | nil=>exact ⟨rfl,rfl⟩
 | cons a l ih=>exact ⟨_,_,[],[],rfl,rfl,⟨rfl,rfl,rfl⟩,ih⟩
theorem Y4J {κ : KM} {S : BS} {uss : List (List Nat)} {a : Act} (hcn : Sees E H ρ a w κ S uss) {x : Operand} {id n : Nat} {ob : Ob} {L : List Int} (hx : ρ x = .rsl id 1 0 n) (hoi : H[id]? = some ob) (host : ob.st = .own) (hcs : ob.cs = ic L) (hL : L.length = n) (hn : 0 < n) :
  ∃ b arr c tyb,kat κ id = some (some b) ∧ uss[id]? = some [b] ∧ w.heap[b]? = some (.cells arr tyb (0,0)) ∧ a.eval x = .slice (some ⟨b,0,none⟩) n c ∧ n ≤ c ∧ c ≤ maxLen ∧ arr.size = c ∧ n ≤ arr.size ∧ ∀ (j : Nat) (v : Value),(L.map (fun i=>Value.int .i64 i))[j]? = some v → arr[j]? = some v:=by
 have hxv:=hcn.ev x
 rw [hx] at hxv
 obtain ⟨_,hxv⟩:=hxv
 rcases hcn.toHp.own hoi host with ⟨hk0,hcs0,hus0⟩ | ⟨b,arr,u,hkb,hus,hgb,hm⟩
 ·rw [hcs] at hcs0
  have:=congrArg List.length hcs0
  rw [Y8b,List.length_nil] at this
  omega
 obtain ⟨tyb,hg⟩:=hgb
 obtain ⟨c,hc,hnc,hcm,hroom⟩ : ∃ c,a.eval x = .slice (some ⟨b,0,none⟩) n c ∧ n ≤ c ∧ c ≤ maxLen ∧ room w b (0 * 1 + c * 1):=by
  rcases hxv with ⟨hk,_⟩ | ⟨b',c,hk,hv,h1,h2,h3⟩
  ·rw [hkb] at hk; cases hk
  ·obtain rfl : b = b':=by rw [hkb] at hk; simpa using hk
   exact ⟨c,by simpa using hv,h1,h2,h3⟩
 have harr : arr.size = c:=by
  obtain ⟨a1,t1,q1,q2⟩:=hroom
  rw [hg] at q1
  simp only [Option.some.injEq,Obj.cells.injEq] at q1
  rw [q1.1]; simpa using q2.symm
 obtain ⟨xs,f1,f2,f3⟩:=hm.vals
 rw [hcs] at f3
 obtain ⟨rfl,rfl⟩:=Y6W f3
 refine ⟨b,arr,c,tyb,hkb,hus,hg,hc,hnc,hcm,harr,by omega,fun j v hj=>?_⟩
 have:=f2 j v hj
 rwa [Nat.zero_add,cell_of_row w b j arr tyb (0,0) hg] at this
theorem Y4W {l : List Int} : ∀ v ∈ l.map (fun i=>Value.int .i64 i),v.oneCell' = true:=by
 intro v hv
 obtain ⟨i,_,rfl⟩:=List.mem_map.1 hv
 rfl
theorem Y4A {L : List Int} {arr : Array Value} {l : List Int} {m : Nat} (hl : l.length = m) (hm : m ≤ L.length) (hL : L.length ≤ arr.size) (h : ∀ (j : Nat) (v : Value),(L.map (fun i=>Value.int .i64 i))[j]? = some v → arr[j]? = some v) :
  (∀ (j : Nat) (v : Value),((l ++ L.drop m).map (fun i=>Value.int .i64 i))[j]? = some v → (arr.toList.take 0 ++ l.map (fun i=>Value.int .i64 i) ++ arr.toList.drop (0 + (l.map (fun i=>Value.int .i64 i)).length)).toArray[j]? = some v) ∧
  (arr.toList.take 0 ++ l.map (fun i=>Value.int .i64 i) ++ arr.toList.drop (0 + (l.map (fun i=>Value.int .i64 i)).length)).toArray.size = arr.size:=by
 constructor
 ·intro j v hj
  rw [List.getElem?_toArray,List.take_zero,List.nil_append,Nat.zero_add,List.length_map]
  rw [List.map_append] at hj
  by_cases e : j < l.length
  ·rw [List.getElem?_append_left (by simpa using e)] at hj ⊢
   exact hj
  ·rw [List.getElem?_append_right (by simpa using e),List.length_map] at hj ⊢
   rw [List.getElem?_map,List.getElem?_drop] at hj
   rw [List.getElem?_drop,Array.getElem?_toList]
   have:=h (l.length + (j - l.length)) v (by rw [List.getElem?_map,hl]; rw [hl] at hj; exact hj)
   exact this
 ·simp only [List.size_toArray,List.length_append,List.take_zero,List.length_nil,List.length_drop,Array.length_toList,List.length_map]
  omega
theorem Y8y {x y : Operand} {t t2 : TypeId} (ho : o.op = .call { callee:=.builtin .copy,args:=#[x,y],argTypes:=#[t,t2] })
  (hq : cpyC P t (ρ x) (ρ y) H K) : ∃ v H',K v H' ∧ ∀ {E : Env} {a : Act} {w : World} {κ : KM} {S : BS} {uss : List (List Nat)},Sees E H ρ a w κ S uss → VOk P E o a w κ S v H':=by
 unfold cpyC at hq
 split at hq
 ·rename_i id sz n f sz' m cs hx hy
  obtain ⟨rfl,rfl,hmn,e,l,L,ob,ht,rfl,hl,hoi,host,hcs,hL,hK⟩:=hq
  refine ⟨_,_,hK,fun {E a w κ S uss} hcn=>?_⟩
  obtain ⟨hu,hsz⟩:=Q0h ht
  obtain ⟨i',hi,hi1⟩:=Q2e hsz
  have hex : ∀ {sv yv : Value} {v' : Value} {w' : World},a.eval x = sv → a.eval y = yv → (Builtin.copy_ #[t,t2] o.type #[sv,yv]).run P w = .ok v' w' → (execOp a.eval o).run P w = .ok (.value v') w':=by
   intro sv yv v' w' hs hs2 hr
   subst hs; subst hs2
   simp [execOp,ho,resolve,invoke,builtin,hr]
  have hyv:=hcn.ev y
  rw [hy] at hyv
  obtain ⟨a',c',hyv,h2,h3,h4,h5⟩:=hyv
  by_cases hm0 : m = 0
  ·subst hm0
   obtain rfl : l = []:=List.eq_nil_of_length_eq_zero hl
   obtain ⟨b,c,hc⟩ : ∃ b c,a.eval x = .slice b n c:=by
    have hxv:=hcn.ev x
    rw [hx] at hxv
    obtain ⟨_,⟨_,rfl,_,a',h⟩ | ⟨b',c',_,h,_⟩⟩:=hxv
    ·exact ⟨a',0,h⟩
    ·exact ⟨_,c',h⟩
   have hrun:=hex hc hyv (Y0w (w:=w) hu hi b a' n c c')
   have he : H.set id { ob with cs:=ic ([] ++ L.drop 0) } = H:=by
    rw [List.nil_append,List.drop_zero,← hcs]
    exact List.ext_getElem? fun j=>by
     rw [List.getElem?_set]
     by_cases e : id = j
     ·subst e; rw [if_pos rfl,if_pos (List.getElem?_eq_some_iff.1 hoi).1,hoi]
     ·rw [if_neg e]
   rw [he]
   exact VOk.val hcn hrun ⟨fun _ h=>h,fun _ h=>h,fun _ _ h=>h,fun _ _ h=>h,fun _ _ _=>rfl⟩ hcn.toHp ⟨rfl,rfl,rfl⟩
  ·obtain ⟨b,arr,c,tyb,hkb,hus,hg,hc,hnc,hcm,harr,hna,hvals⟩:=Y4J hcn hx hoi host hcs hL (by omega)
   rcases h5 with ⟨h,_⟩ | ⟨b2,o2,u2,rfl,h6,h7⟩
   ·exact absurd h hm0
   obtain ⟨xs,f1,f2,f3⟩:=h6.vals
   obtain ⟨rfl,_⟩:=Y6W f3
   have hfit : 0 + (l.map (fun i=>Value.int .i64 i)).length ≤ arr.size:=by rw [List.length_map]; omega
   have hrun:=hex hc hyv (run_copy_row (P:=P) w t t2 o.type e b 0 n c ⟨b2,o2,none⟩ m c' arr tyb (l.map (fun i=>Value.int .i64 i)) hu (by rw [hi]; simp [hi1]) hg (by rw [List.length_map,hl]; exact (Nat.min_eq_left hmn).symm) (Q1x f2) hfit Y4W)
   obtain ⟨g1,g2⟩:=Y4A (l:=l) (m:=m) hl (by omega) (by omega) hvals
   have hw:=hcn.toHp.wrote hoi host hkb hus ⟨tyb,hg⟩ g2 (List.Sublist.refl []) (Y4D (l:=l ++ L.drop m)) g1
   have hext:=Y3L hcn hus hg g2
   intro Kr Q hKr
   unfold Oper.wp
   rw [hrun]
   refine hKr _ _ _ _ _ hext hw ?_
   rw [List.length_map,hl]
   exact ⟨rfl,rfl,rfl⟩
 ·exact hq.elim
theorem Y8J {x : Operand} {t : TypeId} (ho : o.op = .call { callee:=.builtin .clear,args:=#[x],argTypes:=#[t] })
  (hq : clrC P t (ρ x) H K) : ∃ v H',K v H' ∧ ∀ {E : Env} {a : Act} {w : World} {κ : KM} {S : BS} {uss : List (List Nat)},Sees E H ρ a w κ S uss → VOk P E o a w κ S v H':=by
 unfold clrC at hq
 split at hq
 ·rename_i id sz n hx
  obtain ⟨rfl,e,L,ob,ht,hz,hoi,host,hcs,hL,hK⟩:=hq
  refine ⟨_,_,hK,fun {E a w κ S uss} hcn=>?_⟩
  obtain ⟨hu,hsz⟩:=Q0h ht
  obtain ⟨i,zv,hi,hzv,hzc⟩:=Q1f hz
  have hex : ∀ {sv : Value} {v' : Value} {w' : World},a.eval x = sv → (Builtin.clear_ #[t] o.type #[sv]).run P w = .ok v' w' → (execOp a.eval o).run P w = .ok (.value v') w':=by
   intro sv v' w' hs hr
   subst hs
   simp [execOp,ho,resolve,invoke,builtin,hr]
  by_cases hn : n = 0
  ·subst hn
   obtain rfl : L = []:=List.eq_nil_of_length_eq_zero hL
   obtain ⟨b,c,hc⟩ : ∃ b c,a.eval x = .slice b 0 c:=by
    have hxv:=hcn.ev x
    rw [hx] at hxv
    obtain ⟨_,⟨_,_,_,a',h⟩ | ⟨b',c',_,h,_⟩⟩:=hxv
    ·exact ⟨a',0,h⟩
    ·exact ⟨_,c',h⟩
   have hrun:=hex (w':=w) (v':=.tuple #[]) hc (by cases b <;> simp [Builtin.clear_,run_underlying hu])
   have he : H.set id { ob with cs:=ic (List.replicate 0 0) } = H:=by
    rw [List.replicate_zero,← hcs]
    exact List.ext_getElem? fun j=>by
     rw [List.getElem?_set]
     by_cases e : id = j
     ·subst e; rw [if_pos rfl,if_pos (List.getElem?_eq_some_iff.1 hoi).1,hoi]
     ·rw [if_neg e]
   rw [he]
   exact VOk.val hcn hrun ⟨fun _ h=>h,fun _ h=>h,fun _ _ h=>h,fun _ _ h=>h,fun _ _ _=>rfl⟩ hcn.toHp ⟨#[],rfl,rfl,rfl⟩
  ·obtain ⟨b,arr,c,tyb,hkb,hus,hg,hc,hnc,hcm,harr,hna,hvals⟩:=Y4J hcn hx hoi host hcs hL (by omega)
   have hzcells : (Builtin.zeroCells zv.cells n).toList = (List.replicate n (0 : Int)).map (fun i=>Value.int .i64 i):=by
    have h1 : zv.cells.toList = [Value.int .i64 0]:=by
     cases h : zv.cells.toList with
     | nil=>rw [h] at hzc; cases hzc
     | cons a r =>
      rw [h] at hzc
      simp only [List.map_cons,List.cons.injEq] at hzc
      obtain ⟨h2,h3⟩:=hzc
      have h3 : r = []:=by simpa using h3.symm
      subst h3
      have : V.ofVal1 a = .lit (.int .i64 0):=h2.symm
      unfold V.ofVal1 at this
      split at this
      ·cases this
      ·cases this
      ·cases this
      ·obtain rfl:=V.lit.inj this; rfl
    rw [X0o,h1,List.map_replicate]
    induction n with
    | zero=>rfl
    | succ n _=>simp [List.replicate_succ,List.flatten_replicate_singleton]
   have hfit : 0 + ((List.replicate n (0 : Int)).map (fun i=>Value.int .i64 i)).length ≤ arr.size:=by rw [List.length_map,List.length_replicate]; omega
   have hst:=run_storeCells_at P b 0 tyb ((List.replicate n (0 : Int)).map (fun i=>Value.int .i64 i)) 0 arr w hg (by simpa using hfit) Y4W
   obtain ⟨g1,g2⟩:=Y4A (L:=L) (l:=List.replicate n 0) (m:=n) List.length_replicate (by omega) (by omega) hvals
   rw [show L.drop n = [] from List.drop_eq_nil_of_le (by omega),List.append_nil] at g1
   have hrun:=hex (v':=.tuple #[]) hc (w':=w.setRow b (arr.toList.take 0 ++ (List.replicate n (0 : Int)).map (fun i=>Value.int .i64 i) ++ arr.toList.drop (0 + ((List.replicate n (0 : Int)).map (fun i=>Value.int .i64 i)).length)).toArray) (by
    obtain ⟨k,rfl⟩ : ∃ k,n = k + 1:=⟨n - 1,by omega⟩
    simp only [Nat.add_zero] at hst
    generalize (List.replicate (k + 1) (0 : Int)).map (fun i=>Value.int .i64 i) = Z at hst hzcells ⊢
    simp [Builtin.clear_,run_underlying hu,zeroValue,typeInfo,hi,hzv,hzcells,hst])
   have hw:=hcn.toHp.wrote hoi host hkb hus ⟨tyb,hg⟩ g2 (List.Sublist.refl []) (Y4D (l:=List.replicate n 0)) g1
   have hext:=Y3L hcn hus hg g2
   intro Kr Q hKr
   unfold Oper.wp
   rw [hrun]
   exact hKr _ _ _ _ _ hext hw ⟨#[],rfl,rfl,rfl⟩
 ·exact hq.elim
theorem Y8z {t : TypeId} {x y : V} {K K' : V → List Ob → Prop} (hK : ∀ v H,K v H → K' v H) (h : cpyC P t x y H K) : cpyC P t x y H K':=by
 unfold cpyC at *
 split at h
 ·obtain ⟨h1,h2,h3,e,l,L,ob,g1,g2,g3,g4,g5,g6,g7,g8⟩:=h
  exact ⟨h1,h2,h3,e,l,L,ob,g1,g2,g3,g4,g5,g6,g7,hK _ _ g8⟩
 ·exact h
theorem Y8K {t : TypeId} {x : V} {K K' : V → List Ob → Prop} (hK : ∀ v H,K v H → K' v H) (h : clrC P t x H K) : clrC P t x H K':=by
 unfold clrC at *
 split at h
 ·obtain ⟨h1,e,L,ob,g1,g2,g3,g4,g5,g6,g7⟩:=h
  exact ⟨h1,e,L,ob,g1,g2,g3,g4,g5,g6,hK _ _ g7⟩
 ·exact h
end
end Go.Proofs.YtchlpclgkhggeaaGreat