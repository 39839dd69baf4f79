/- part of the proof -/
import Derived.Test.YtchlpclgkhggeaaGreatWFc
import Derived.ProofKit
import Derived.Test.YtchlpclgkhggeaaGreatWGa
import Derived.Test.YtchlpclgkhggeaaGreatWJa
import Derived.Test.YtchlpclgkhggeaaGreatWXa
import Derived.Test.YtchlpclgkhggeaaGreatWSf
namespace Go.Proofs.YtchlpclgkhggeaaGreat
open Go Go.RowKit
set_option linter.unusedVariables false
set_option linter.unusedSimpArgs false
mutual
inductive Rd (P : Program) : TypeId → List V → Prop
 | int (t : TypeId) (k : IntKind) (n : Int) : P.underlying t = some (.int k) → (Lit.int k n).wf = true → Rd P t [.lit (.int k n)]
 | bool (t : TypeId) (b : Bool) : P.underlying t = some .bool → Rd P t [.lit (.bool b)]
 | slice (t e : TypeId) (n : Nat) (cs : List V) : P.underlying t = some (.slice e) → n ≤ maxLen → RdN P e n cs → Rd P t [.sl .b (P.cellsOf e) n cs]
 | struct (t : TypeId) (fs : Array Field) (vs : List V) : P.underlying t = some (.struct fs) → RdS P (fs.toList.map (·.type)) vs → Rd P t vs
inductive RdN (P : Program) : TypeId → Nat → List V → Prop
 | zero (e : TypeId) : RdN P e 0 []
 | succ (e : TypeId) (n : Nat) (vs ws : List V) : Rd P e vs → vs.length = P.cellsOf e → RdN P e n ws → RdN P e (n + 1) (vs ++ ws)
inductive RdS (P : Program) : List TypeId → List V → Prop
 | nil : RdS P [] []
 | cons (t : TypeId) (ts : List TypeId) (vs ws : List V) : Rd P t vs → vs.length = P.cellsOf t → RdS P ts ws → RdS P (t :: ts) (vs ++ ws)
end
def tiled (P : Program) : Nat → List Field → Bool
 | _,[]=>true
 | o,f :: fs=>Nat.beq f.offset o && tiled P (o + P.cellsOf f.type) fs
def ends (P : Program) : Nat → List Field → Nat
 | o,[]=>o
 | o,f :: fs=>ends P (o + P.cellsOf f.type) fs
def plainT (P : Program) : Nat → TypeId → Bool
 | 0,_=>false
 | n + 1,t=>match P.underlying t with
  | some (.int _)=>true
  | some .bool=>true
  | some (.slice e)=>plainT P n e && Nat.blt 0 (P.cellsOf e)
  | some (.struct fs)=>fs.toList.all (fun f=>plainT P n f.type) && tiled P 0 fs.toList && Nat.beq (ends P 0 fs.toList) (P.cellsOf t)
  | _=>false
section
variable {H : Type} {enc : TypeId × Value → H} {P : Program} {w : World} {held : Bool}
abbrev Old (w : World) : BS:=fun b=>b < w.heap.size
theorem Z2k {a : Addr} {i j : Nat} (h : a.spot = none) : (a.add i).add j = ⟨a.block,a.off + i + j,none⟩:=by
 obtain ⟨b,o,s⟩:=a
 obtain rfl : s = none:=h
 rw [Addr.mid,Addr.mid]
theorem Y3h : ∀ {n fuel : Nat} {t : TypeId} {cs : List Value} {x : DataW H × List MemPlace},plainT P n t = true → DataW.trod enc P w 0 (fun _=>true) held fuel t cs = some x →
  ∃ vs,Rd P t vs ∧ vs.length = cs.length ∧ ∀ S : BS,RepL w S (Old w) [] vs cs []
 | 0,_,_,_,_,h,_=>by cases h
 | n + 1,fuel,t,cs,x,hp,h=>by
  unfold plainT at hp
  split at hp
  ·rename_i k ht
   obtain ⟨m,rfl,_,hw⟩:=DataW.trod_int ht h
   exact ⟨_,.int t k m ht hw,rfl,fun S=>⟨_,[],[],[],rfl,rfl,⟨rfl,rfl,rfl⟩,rfl,rfl⟩⟩
  ·rename_i ht
   obtain ⟨b,rfl,_⟩:=DataW.trod_bool ht h
   exact ⟨_,.bool t b ht,rfl,fun S=>⟨_,[],[],[],rfl,rfl,⟨rfl,rfl,rfl⟩,rfl,rfl⟩⟩
  ·rename_i e ht
   simp only [Bool.and_eq_true] at hp
   have hk : 0 < P.cellsOf e:=by have:=hp.2; simp [Nat.blt] at this; omega
   rcases DataW.trod_slice ht h with ⟨rfl,_⟩ | ⟨a,len,cap,elems,rest,m,_,rfl,_,_,hlc,hcm,hel,hall,_,_⟩
   ·exact ⟨_,.slice t e 0 [] ht (Nat.zero_le _) (.zero e),rfl,fun S=>⟨_,[],[],[],rfl,rfl,⟨none,0,rfl,Nat.le_refl _,Nat.zero_le _,by simp,.inl ⟨rfl,rfl,fun _=>rfl⟩⟩,rfl,rfl⟩⟩
   ·have hspot : 0 < len → a.spot = none ∧ a.block < w.heap.size:=by
     intro hpos
     have h0:=hall 0 hpos
     have hlt : 0 < elems.length:=by omega
     rw [List.getElem?_eq_getElem hlt] at h0
     cases hc : w.cells? 0 (a.add (0 * P.cellsOf e)) (P.cellsOf e) with
     | none=>rw [hc] at h0; cases h0
     | some c0 =>
      obtain ⟨_,hl,hcell⟩:=World.cells?_some hc
      have:=hcell 0 hk
      have e0 : (a.add (0 * P.cellsOf e)).add 0 = a:=by simp [Addr.add]
      rw [e0] at this
      have hs : (w.cell? a).isSome = true:=by rw [this,List.getElem?_eq_getElem (by omega)]; rfl
      unfold World.cell? at hs
      split at hs
      ·rename_i hb
       refine ⟨?_,(Array.getElem?_eq_some_iff.1 hb).1⟩
       split at hs
       ·cases hs
       ·rename_i hns; cases hsp : a.spot <;> simp_all
      ·cases hs
    have key : ∀ m i,i + m = len → ∃ vs,RdN P e m vs ∧ vs.length = m * P.cellsOf e ∧ ∀ S : BS,Mem w S (Old w) [] vs a.block (a.off + i * P.cellsOf e) []:=by
     intro m
     induction m with
     | zero=>intro i _; exact ⟨[],.zero e,by simp,fun S=>rfl⟩
     | succ m ih =>
      intro i hi
      obtain ⟨ws,h1,h2,h3⟩:=ih (i + 1) (by omega)
      have hi':=hall i (by omega)
      have hlt : i < elems.length:=by omega
      rw [List.getElem?_eq_getElem hlt] at hi'
      cases hc : w.cells? 0 (a.add (i * P.cellsOf e)) (P.cellsOf e) with
      | none=>rw [hc] at hi'; cases hi'
      | some ci =>
       rw [hc] at hi'
       obtain ⟨vs,g1,g2,g3⟩:=Y3h hp.1 hi'
       obtain ⟨_,hl,hcell⟩:=World.cells?_some hc
       refine ⟨vs ++ ws,.succ e m vs ws g1 (by omega) h1,by rw [List.length_append,h2,g2,hl,Nat.succ_mul]; omega,fun S=>?_⟩
       refine Mem.append.2 ⟨[],[],rfl,Mem.of_vals (g3 S) ?_, ?_⟩
       ·intro j v hj
        have hjl:=(List.getElem?_eq_some_iff.1 hj).1
        have:=hcell j (by omega)
        rw [Z2k (hspot (by omega)).1,hj] at this
        exact this
       ·have:=h3 S
        rw [Nat.succ_mul,← Nat.add_assoc] at this
        rw [g2,hl]; exact this
    obtain ⟨vs,h1,h2,h3⟩:=key len 0 (by omega)
    refine ⟨_,.slice t e len vs ht (by omega) h1,rfl,fun S=>⟨_,[],[],[],rfl,rfl,⟨some a,cap,rfl,hlc,hcm,h2, ?_⟩,rfl,rfl⟩⟩
    by_cases hz : len = 0
    ·exact .inl ⟨hz,rfl,fun h=>by cases h⟩
    ·obtain ⟨hs,hb⟩:=hspot (by omega)
     refine .inr ⟨a.block,a.off,[], ?_, ?_,.inr hb,rfl,rfl⟩
     ·obtain ⟨b,o,s⟩:=a; obtain rfl : s = none:=hs; rfl
     ·have:=h3 S; rw [Nat.zero_mul,Nat.add_zero] at this; exact this
  ·rename_i fs ht
   simp only [Bool.and_eq_true,List.all_eq_true] at hp
   obtain ⟨xs,m,_,_,hcl,hxl,hall⟩:=DataW.trod_struct ht h
   have hend : ends P 0 fs.toList = P.cellsOf t:=by simpa using hp.2
   have key : ∀ (l : List Field) (o : Nat),tiled P o l = true → (∀ f ∈ l,plainT P n f.type = true) → (∀ f ∈ l,∃ y,DataW.trod enc P w 0 (fun _=>true) held m f.type ((cs.drop f.offset).take (P.cellsOf f.type)) = some y) →
     ends P o l = cs.length → ∃ vs,RdS P (l.map (·.type)) vs ∧ o + vs.length = cs.length ∧ ∀ S : BS,RepL w S (Old w) [] vs (cs.drop o) []:=by
    intro l
    induction l with
    | nil =>
     intro o _ _ _ he
     have he : o = cs.length:=he
     exact ⟨[],.nil,by simpa using he,fun S=>⟨by rw [he]; simp,rfl⟩⟩
    | cons f l ih =>
     intro o ht hpl htr he
     unfold tiled at ht
     simp only [Bool.and_eq_true,Nat.beq_eq_true_eq] at ht
     have ho : f.offset = o:=by simpa using ht.1
     obtain ⟨ws,h1,h2,h3⟩:=ih (o + P.cellsOf f.type) ht.2 (fun f hf=>hpl f (by simp [hf])) (fun f hf=>htr f (by simp [hf])) he
     obtain ⟨y,hy⟩:=htr f (by simp)
     obtain ⟨vs,g1,g2,g3⟩:=Y3h (hpl f (by simp)) hy
     rw [ho] at g2 g3
     have hlen : vs.length = P.cellsOf f.type:=by rw [g2,List.length_take,List.length_drop]; omega
     refine ⟨vs ++ ws,.cons _ _ vs ws g1 hlen h1,by rw [List.length_append]; omega,fun S=>?_⟩
     have:=(g3 S).nils (h3 S)
     rw [← List.drop_drop,List.take_append_drop] at this
     exact this
   have hfs : ∀ f ∈ fs.toList,∃ y,DataW.trod enc P w 0 (fun _=>true) held m f.type ((cs.drop f.offset).take (P.cellsOf f.type)) = some y:=by
    intro f hf
    obtain ⟨i,hi⟩:=List.getElem?_of_mem hf
    have hi' : fs[i]? = some f:=by simpa using hi
    have hlt : i < xs.length:=by rw [hxl]; exact (Array.getElem?_eq_some_iff.1 hi').1
    exact ⟨xs[i],by rw [hall i f hi',List.getElem?_eq_getElem hlt]⟩
   obtain ⟨vs,h1,h2,h3⟩:=key fs.toList 0 hp.1.2 (fun f hf=>hp.1.1 f hf) hfs (by rw [hend,hcl])
   exact ⟨vs,.struct t fs vs ht h1,by omega,fun S=>by have:=h3 S; simpa using this⟩
  ·cases hp
inductive RdV (P : Program) : TypeId → V → Prop
 | struct (t : TypeId) (fs : Array Field) (vs : List V) : P.underlying t = some (.struct fs) → Rd P t vs → RdV P t (.agg vs)
 | one (t : TypeId) (v : V) : Rd P t [v] → RdV P t v
inductive RdA (P : Program) : List TypeId → List V → Prop
 | nil : RdA P [] []
 | cons (t : TypeId) (ts : List TypeId) (v : V) (vs : List V) : RdV P t v → RdA P ts vs → RdA P (t :: ts) (v :: vs)
open Go.WideShapes in
theorem Y9d {n : Nat} {t : TypeId} {v : Value} {d : DataW H} {ps : List MemPlace} {base : Nat} (hp : plainT P n t = true) (hv : Value.okWide P w .any base t v) (h : DataW.Trod enc P w 0 (fun _=>true) held t v d ps) :
  ∃ a,RdV P t a ∧ ∀ S : BS,Rep w S (Old w) [] a v []:=by
 obtain ⟨fuel,h⟩:=h
 obtain ⟨vs,h1,h2,h3⟩:=Y3h hp h
 have one : v.cells.toList = [v] → ∃ a,RdV P t a ∧ ∀ S : BS,Rep w S (Old w) [] a v []:=by
  intro e
  rw [e] at h2 h3
  obtain ⟨a,rfl⟩:=List.length_eq_one_iff.1 h2
  refine ⟨a,.one t a h1,fun S=>?_⟩
  obtain ⟨x,xs,u1,u2,e1,e2,e3,e4⟩:=h3 S
  cases e1
  have : u1 = []:=by cases u1 with | nil=>rfl | cons _ _=>simp at e2
  subst this; exact e3
 cases n with
 | zero=>cases hp
 | succ n =>
  unfold plainT at hp
  split at hp
  ·rename_i k ht
   obtain ⟨m,rfl⟩:=okWide_int ht hv
   exact one rfl
  ·rename_i ht
   obtain ⟨b,rfl⟩:=okWide_bool ht hv
   exact one rfl
  ·rename_i e ht
   have : ∀ cs,v ≠ .agg cs:=by
    rintro cs rfl
    simp only [Value.okWide,ht,Cell.okWide,Cell.ok] at hv
   refine one ?_
   unfold Value.cells
   split
   ·exact absurd rfl (this _)
   ·rfl
  ·rename_i fs ht
   obtain ⟨cs,rfl,_⟩:=okWide_struct ht hv
   exact ⟨.agg vs,.struct t fs vs ht h1,fun S=>⟨cs,rfl,h3 S⟩⟩
  ·cases hp
theorem Y4l {n : Nat} {base : Nat} : ∀ {ts : List TypeId} {args : List Value} {ds : List (DataW H)} {ps : List MemPlace},(∀ t ∈ ts,plainT P n t = true) → (∀ (j : Nat) t v,ts[j]? = some t → args[j]? = some v → Value.okWide P w .any base t v) →
  DataW.TrodAll enc P w 0 (fun _=>true) held ts args ds ps → ∃ av,RdA P ts av ∧ ∀ S : BS,RepL w S (Old w) [] av args []
 | [],[],[],_,_,_,_=>⟨[],.nil,fun S=>⟨rfl,rfl⟩⟩
 | t :: ts,v :: vs,d :: ds,ps,hp,hv,⟨p,q,h1,h2,_⟩=>by
  obtain ⟨a,e1,e2⟩:=Y9d (hp t (by simp)) (hv 0 t v rfl rfl) h1
  obtain ⟨av,e3,e4⟩:=Y4l (fun t ht=>hp t (by simp [ht])) (fun j t v h1 h2=>hv (j + 1) t v (by simpa using h1) (by simpa using h2)) h2
  exact ⟨a :: av,.cons _ _ _ _ e1 e3,fun S=>⟨v,vs,[],[],rfl,rfl,e2 S,e4 S⟩⟩
theorem X2E (hl : laidOutB P = true) {w' : World} (hb : Below w.heap.size w w') : ∀ {ts : List TypeId} {args : List Value} {ds : List (DataW H)} {ps : List MemPlace},(∀ t ∈ ts,P.readableRec t = true ∧ t < P.types.size) →
  DataW.TrodAll enc P w 0 (fun _=>true) true ts args ds ps → (∀ x ∈ ps,x.block < w.heap.size) → DataW.TrodAll enc P w' 0 (fun b=>decide (b < w.heap.size)) true ts args ds ps
 | [],[],[],_,_,h,_=>h
 | t :: ts,v :: vs,d :: ds,ps,hr,⟨p,q,h1,h2,e⟩,hlt=>by
  subst e
  exact ⟨p,q,Below.trod hl (hr t (by simp)).1 (hr t (by simp)).2 h1 hb (fun x hx=>hlt x (by simp [hx])),X2E hl hb (fun t ht=>hr t (by simp [ht])) h2 (fun x hx=>hlt x (by simp [hx])),rfl⟩
theorem Y7M {f : FuncId} {fn : Func} {s : ChangeSpec} {n tb : Nat} (hl : laidOutB P = true) (hr : ∀ t ∈ fn.params.toList,P.readableRec t = true ∧ t < P.types.size) (hp : ∀ t ∈ fn.params.toList,plainT P n t = true)
  (hb : fn.resultTypes = #[tb]) (htb : P.underlying tb = some .bool) (hvars : s.vars = [])
  (hs : ∀ ds : List (DataW H),ds.length = fn.params.size → s.fn H (ds ++ []) = { results:=[.lit (.bool true)],args:=ds })
  (hpc : ∀ av,RdA P fn.params.toList av → PC P f av (.lit (.bool true)) [])
  {W : World} {base : Nat} {args : Array Value} {ds gs : List (DataW H)} {before : List MemPlace}
  (hval : ∀ (j : Nat) t v,fn.params[j]? = some t → args[j]? = some v → Value.okWide P W .any base t v)
  (hW : DataW.Whole enc P fn.params.toList s.vars false W args.toList ds gs before) :
  Calls P f args W fun e W'=>∃ v,e = .returned v ∧ s.post enc P fn false true false false W args v W':=by
 obtain ⟨p,q,hA,hV,rfl,hfz,_⟩:=hW
 have hW' : DataW.Whole enc P fn.params.toList s.vars false W args.toList ds gs (p ++ q):=⟨p,q,hA,hV,rfl,hfz,by simp⟩
 rw [hvars] at hV
 obtain ⟨rfl,rfl⟩ : gs = [] ∧ q = []:=by
  cases gs with
  | nil=>exact ⟨rfl,hV⟩
  | cons _ _=>exact hV.elim
 obtain ⟨av,h1,h2⟩:=Y4l hp (fun j t v h3 h4=>hval j t v (by simpa using h3) (by simpa using h4)) hA
 have hlen : ds.length = fn.params.size:=by
  have key : ∀ {ts : List TypeId} {vs : List Value} {ds : List (DataW H)} {ps : List MemPlace},DataW.TrodAll enc P W 0 (fun _=>true) true ts vs ds ps → ds.length = ts.length:=by
   intro ts
   induction ts with
   | nil=>intro vs ds ps h; cases vs <;> cases ds <;> first | rfl | exact h.elim
   | cons t ts ih =>
    intro vs ds ps h
    cases vs with
    | nil=>exact h.elim
    | cons v vs =>
     cases ds with
     | nil=>exact h.elim
     | cons d ds=>obtain ⟨_,_,_,h2,_⟩:=h; simp [ih h2]
  simpa using key hA
 have hcall:=(hpc av h1).2 W (fun _=>False) (Old W) args.toList (fun b hb=>hb.elim (fun h=>h.elim) (fun h=>h)) (h2 _)
 refine Calls.mono hcall ?_
 rintro e W' ⟨x,rfl,hbl,κ',S',uss',_,_,hr',_⟩
 obtain ⟨_,rfl,_⟩:=hr'
 refine ⟨_,rfl,ds,[],p ++ [],[],p,[],hW', ?_, ?_, ?_,hbl.frame _,by intro h; cases h⟩
 ·rw [hs ds hlen,hb]
  exact ⟨[],[],⟨1,by simp [DataW.trod,htb,Value.cells]⟩,rfl,rfl⟩
 ·rw [hs ds hlen]
  exact X2E hl hbl hr hA (fun x hx=>hW'.lt x (by simpa using hx))
 ·rw [hvars,hs ds hlen]
  rfl
theorem Y6X {t : TypeId} {k : IntKind} {vs : List V} (ht : P.underlying t = some (.int k)) (h : Rd P t vs) : ∃ n,vs = [.lit (.int k n)] ∧ (Lit.int k n).wf = true:=by
 cases h with
 | int _ k' n h1 h2=>rw [ht] at h1; cases h1; exact ⟨n,rfl,h2⟩
 | bool _ b h1=>rw [ht] at h1; cases h1
 | slice _ e n cs h1=>rw [ht] at h1; cases h1
 | struct _ fs vs h1=>rw [ht] at h1; cases h1
theorem Y9v {t e : TypeId} {vs : List V} (ht : P.underlying t = some (.slice e)) (h : Rd P t vs) : ∃ n cs,vs = [.sl .b (P.cellsOf e) n cs] ∧ n ≤ maxLen ∧ RdN P e n cs:=by
 cases h with
 | int _ k' n h1 h2=>rw [ht] at h1; cases h1
 | bool _ b h1=>rw [ht] at h1; cases h1
 | slice _ e n cs h1 h2 h3=>rw [ht] at h1; cases h1; exact ⟨n,cs,rfl,h2,h3⟩
 | struct _ fs vs h1=>rw [ht] at h1; cases h1
theorem Y2h {t : TypeId} {fs : Array Field} {vs : List V} (ht : P.underlying t = some (.struct fs)) (h : Rd P t vs) : RdS P (fs.toList.map (·.type)) vs:=by
 cases h with
 | int _ k' n h1 h2=>rw [ht] at h1; cases h1
 | bool _ b h1=>rw [ht] at h1; cases h1
 | slice _ e n cs h1=>rw [ht] at h1; cases h1
 | struct _ fs vs h1 h2=>rw [ht] at h1; cases h1; exact h2
theorem Y4F {e : TypeId} (he : P.underlying e = some (.int .i64)) : ∀ {n : Nat} {cs : List V},RdN P e n cs → ∃ l : List Int,cs = iC l ∧ l.length = n
 | 0,_,.zero _=>⟨[],rfl,rfl⟩
 | n + 1,_,.succ _ _ vs ws h1 h2 h3=>by
  obtain ⟨m,rfl,_⟩:=Y6X he h1
  obtain ⟨l,rfl,hl⟩:=Y4F he h3
  exact ⟨m :: l,rfl,by simp [hl]⟩
theorem Y3q {t e : TypeId} {vs : List V} (ht : P.underlying t = some (.slice e)) (he : P.underlying e = some (.int .i64)) (hc : P.cellsOf e = 1) (h : Rd P t vs) : ∃ l : List Int,vs = [sI .b l] ∧ l.length ≤ maxLen:=by
 obtain ⟨n,cs,rfl,hn,hr⟩:=Y9v ht h
 obtain ⟨l,rfl,rfl⟩:=Y4F he hr
 exact ⟨l,by rw [hc],hn⟩
theorem Z1j {t : TypeId} {v : V} (h : RdV P t v) : (∃ fs vs,P.underlying t = some (.struct fs) ∧ v = .agg vs ∧ Rd P t vs) ∨ Rd P t [v]:=by
 cases h
 ·rename_i fs vs h1 h2; exact .inl ⟨fs,vs,h1,rfl,h2⟩
 ·rename_i h; exact .inr h
theorem Y5F {t : TypeId} {fs : Array Field} {v : V} (ht : P.underlying t = some (.struct fs)) (h : RdV P t v) (hlen : ¬ RdS P (fs.toList.map (·.type)) [v]) : ∃ vs,v = .agg vs ∧ RdS P (fs.toList.map (·.type)) vs:=by
 rcases Z1j h with ⟨fs',vs,h1,rfl,h2⟩ | h
 ·exact ⟨vs,rfl,Y2h ht h2⟩
 ·exact absurd (Y2h ht h) hlen
end
open Go Go.RowKit Go.ChangeShapes Go.WideShapes Go.ChangeAt
set_option maxRecDepth 100000
theorem ownKnobP : ownKnob PP.godebug = none:=by kernel_rfl
theorem laidOutP : laidOutB PP = true:=by kernel_rfl
theorem u_int : PP.underlying T_int = some (.int .i64):=by kernel_rfl
theorem Z3N : PP.underlying X8F = some .bool:=by kernel_rfl
theorem Y6q : PP.underlying Q1F = some (.slice T_int):=by kernel_rfl
theorem c_int : PP.cellsOf T_int = 1:=by kernel_rfl
theorem X2O {P : Program} {t : TypeId} {ts : List TypeId} {vs : List V} (h : RdS P (t :: ts) vs) : ∃ v1 v2,vs = v1 ++ v2 ∧ Rd P t v1 ∧ v1.length = P.cellsOf t ∧ RdS P ts v2:=by
 cases h; rename_i v1 v2 h1 h2 h3; exact ⟨v1,v2,rfl,h1,h2,h3⟩
theorem Z1k {P : Program} {vs : List V} (h : RdS P [] vs) : vs = []:=by cases h; rfl
def structOf (P : Program) (t : TypeId) : Option (List TypeId):=match P.underlying t with
 | some (.struct fs)=>some (fs.toList.map (·.type))
 | _=>none
theorem Y0s {P : Program} {t : TypeId} {l : List TypeId} (h : structOf P t = some l) : ∃ fs,P.underlying t = some (.struct fs) ∧ fs.toList.map (·.type) = l:=by
 unfold structOf at h
 split at h
 ·rename_i fs e; exact ⟨fs,e,by simpa using h⟩
 ·cases h
theorem Y5E {t : TypeId} (hst : structOf PP t = some [T_int,T_int,Q1F,Q1F,Q1F]) {v : V} (h : RdV PP t v) :
  ∃ p : Prg,v = pV .b p ∧ p.a.length ≤ 9223372036854775807 ∧ p.b.length ≤ 9223372036854775807 ∧ p.c.length ≤ 9223372036854775807:=by
 obtain ⟨fs,ht,hf⟩:=Y0s hst
 have key : ∀ vs,RdS PP [T_int,T_int,Q1F,Q1F,Q1F] vs → ∃ p : Prg,vs = pC .b p ∧ p.a.length ≤ 9223372036854775807 ∧ p.b.length ≤ 9223372036854775807 ∧ p.c.length ≤ 9223372036854775807:=by
  intro vs h
  obtain ⟨v1,w1,rfl,h1,_,h⟩:=X2O h
  obtain ⟨v2,w2,rfl,h2,_,h⟩:=X2O h
  obtain ⟨v3,w3,rfl,h3,_,h⟩:=X2O h
  obtain ⟨v4,w4,rfl,h4,_,h⟩:=X2O h
  obtain ⟨v5,w5,rfl,h5,_,h⟩:=X2O h
  obtain rfl:=Z1k h
  obtain ⟨r,rfl,_⟩:=Y6X u_int h1
  obtain ⟨c,rfl,_⟩:=Y6X u_int h2
  obtain ⟨la,rfl,ha⟩:=Y3q Y6q u_int c_int h3
  obtain ⟨lb,rfl,hb⟩:=Y3q Y6q u_int c_int h4
  obtain ⟨lc,rfl,hc⟩:=Y3q Y6q u_int c_int h5
  exact ⟨⟨r,c,la,lb,lc⟩,rfl,ha,hb,hc⟩
 obtain ⟨vs,rfl,hs⟩:=Y5F ht h (by
  intro h
  rw [hf] at h
  obtain ⟨p,hp,_⟩:=key _ h
  have:=congrArg List.length hp
  simp [pC] at this)
 rw [hf] at hs
 obtain ⟨p,rfl,hp⟩:=key _ hs
 exact ⟨p,rfl,hp⟩
set_option maxHeartbeats 4000000
attribute [go_sem] Q8G
def Sz (r : Rat) (k : Nat) : Prop:=∃ (a : Int) (d : Nat),r = (a : Rat) / (d : Rat) ∧ a.natAbs ≤ 2 ^ k ∧ 0 < d ∧ d ≤ 2 ^ k
theorem X4W {d : Nat} (h : 0 < d) : (d : Rat) ≠ 0:=fun q=>by have:=Rat.natCast_eq_zero_iff.1 q; omega
theorem Sz.nd {r : Rat} {k : Nat} (h : Sz r k) : r.num.natAbs ≤ 2 ^ k ∧ r.den ≤ 2 ^ k:=by
 obtain ⟨a,d,e,h1,h2,h3⟩:=h
 have e2 : mkRat a d = ⟨r.num,r.den,r.den_nz,r.reduced⟩:=by rw [Rat.mkRat_eq_div,← e]
 obtain ⟨m,hm,p1,p2⟩:=Rat.mkRat_num_den (by omega) e2
 have hm1 : 1 ≤ m:=by omega
 constructor
 ·rw [p1,Int.natAbs_mul] at h1
  have : r.num.natAbs * 1 ≤ r.num.natAbs * m:=Nat.mul_le_mul_left _ hm1
  simp at h1; omega
 ·rw [p2] at h3
  have : r.den * 1 ≤ r.den * m:=Nat.mul_le_mul_left _ hm1
  omega
theorem Sz.mono {r : Rat} {k l : Nat} (h : Sz r k) (hl : k ≤ l) : Sz r l:=by
 obtain ⟨a,d,e,h1,h2,h3⟩:=h
 have:=Nat.pow_le_pow_right (show 0 < 2 by omega) hl
 exact ⟨a,d,e,by omega,h2,by omega⟩
theorem Sz.int {z : Int} {k : Nat} (h : z.natAbs ≤ 2 ^ k) : Sz (z : Rat) k:=⟨z,1,by grind,h,by omega,Nat.one_le_two_pow⟩
theorem Sz.mul {r s : Rat} {k l : Nat} (h : Sz r k) (g : Sz s l) : Sz (r * s) (k + l):=by
 obtain ⟨a,d,e,h1,h2,h3⟩:=h
 obtain ⟨b,c,f,g1,g2,g3⟩:=g
 have hd:=X4W h2
 have hc:=X4W g2
 refine ⟨a * b,d * c, ?_, ?_,Nat.mul_pos h2 g2, ?_⟩
 ·rw [e,f]; push_cast; grind
 ·rw [Int.natAbs_mul,Nat.pow_add]; exact Nat.mul_le_mul h1 g1
 ·rw [Nat.pow_add]; exact Nat.mul_le_mul h3 g3
theorem Sz.neg {r : Rat} {k : Nat} (h : Sz r k) : Sz (-r) k:=by
 obtain ⟨a,d,e,h1,h2,h3⟩:=h
 have hd:=X4W h2
 exact ⟨-a,d,by rw [e]; push_cast; grind,by omega,h2,h3⟩
theorem Sz.add {r s : Rat} {k l : Nat} (h : Sz r k) (g : Sz s l) : Sz (r + s) (k + l + 1):=by
 obtain ⟨a,d,e,h1,h2,h3⟩:=h
 obtain ⟨b,c,f,g1,g2,g3⟩:=g
 have hd:=X4W h2
 have hc:=X4W g2
 refine ⟨a * c + b * d,d * c, ?_, ?_,Nat.mul_pos h2 g2, ?_⟩
 ·rw [e,f]; push_cast; grind
 ·have p1 : (a * c).natAbs ≤ 2 ^ (k + l):=by rw [Int.natAbs_mul,Nat.pow_add]; exact Nat.mul_le_mul h1 (by simpa using g3)
  have p2 : (b * d).natAbs ≤ 2 ^ (k + l):=by rw [Int.natAbs_mul,Nat.pow_add,Nat.mul_comm]; exact Nat.mul_le_mul (by simpa using h3) g1
  rw [Nat.pow_succ]; omega
 ·have : d * c ≤ 2 ^ (k + l):=by rw [Nat.pow_add]; exact Nat.mul_le_mul h3 g3
  rw [Nat.pow_succ]; omega
theorem Sz.sub {r s : Rat} {k l : Nat} (h : Sz r k) (g : Sz s l) : Sz (r - s) (k + l + 1):=by
 rw [Rat.sub_eq_add_neg]; exact h.add g.neg
theorem Sz.inv {r : Rat} {k : Nat} (h : Sz r k) (h0 : r ≠ 0) : Sz r⁻¹ k:=by
 obtain ⟨a,d,e,h1,h2,h3⟩:=h
 have hd:=X4W h2
 have ha : a ≠ 0:=by rintro rfl; apply h0; rw [e]; grind
 rcases Int.lt_trichotomy a 0 with q | q | q
 ·refine ⟨-(d : Int),a.natAbs, ?_,by omega,by omega,h1⟩
  have hn : ((a.natAbs : Nat) : Rat) = -(a : Rat):=by
   rw [show ((a.natAbs : Nat) : Rat) = (((a.natAbs : Nat) : Int) : Rat) from rfl,show ((a.natAbs : Nat) : Int) = -a by omega]; push_cast; rfl
  have ha' : (a : Rat) ≠ 0:=by intro z; exact ha (by exact_mod_cast z)
  rw [e,hn]; push_cast; grind
 ·exact absurd q ha
 ·refine ⟨(d : Int),a.natAbs, ?_,by omega,by omega,h1⟩
  have hn : ((a.natAbs : Nat) : Rat) = (a : Rat):=by
   rw [show ((a.natAbs : Nat) : Rat) = (((a.natAbs : Nat) : Int) : Rat) from rfl,show ((a.natAbs : Nat) : Int) = a by omega]
  have ha' : (a : Rat) ≠ 0:=by intro z; exact ha (by exact_mod_cast z)
  rw [e,hn]; push_cast; grind
theorem Sz.div {r s : Rat} {k l : Nat} (h : Sz r k) (g : Sz s l) (h0 : s ≠ 0) : Sz (r / s) (k + l):=by
 rw [Rat.div_def]; exact h.mul (g.inv h0)
theorem Sz.fits {r : Rat} {k : Nat} (h : Sz r k) (hk : k ≤ 696) : (lim r.num.natAbs).length ≤ 24 ∧ (lim r.den).length ≤ 24:=by
 obtain ⟨h1,h2⟩:=h.nd
 obtain ⟨a,ha⟩ : ∃ a : Nat,a = 29:=⟨_,rfl⟩
 have e1 : (2 : Nat) ^ k ≤ 2 ^ (a * 24):=Nat.pow_le_pow_right (by omega) (by omega)
 have e2 : (2 : Nat) ^ (a * 24) < 1000000000 ^ 24:=by
  rw [Nat.pow_mul]; exact Nat.pow_lt_pow_left (by rw [ha]; decide) (by decide)
 have key : ∀ n : Nat,n ≤ 2 ^ k → (lim n).length ≤ 24:=fun n hn=>by
  rw [Q0d,show (1000000000 : Int) = ((1000000000 : Nat) : Int) from rfl,← Int.natCast_pow]
  exact Int.ofNat_lt.2 (Nat.lt_of_le_of_lt hn (Nat.lt_of_le_of_lt e1 e2))
 exact ⟨key _ h1,key _ h2⟩
theorem X5L {r : Rat} {k : Nat} (h : Sz r k) (hk : k ≤ 696) : (FQ.fit r).1 = some r:=by
 unfold FQ.fit
 rw [dif_pos (h.fits hk)]
structure FV (x : FQ) (r : Rat) (k : Nat) : Prop where
 v : x.1 = some r
 s : Sz r k
theorem FV.good {x : FQ} {r : Rat} {k : Nat} (h : FV x r k) : x.good = true:=by unfold FQ.good; rw [h.v]; rfl
theorem FV.mono {x : FQ} {r : Rat} {k l : Nat} (h : FV x r k) (hl : k ≤ l) : FV x r l:=⟨h.v,h.s.mono hl⟩
theorem FV.num {x : FQ} {r : Rat} {k : Nat} (h : FV x r k) : x.num = 0 ↔ r = 0:=by
 rw [show x.num = r.num by unfold FQ.num; rw [h.v]]
 exact Rat.num_eq_zero
theorem FV.numv {x : FQ} {r : Rat} {k : Nat} (h : FV x r k) : x.num = r.num:=by unfold FQ.num; rw [h.v]
theorem FV.eq {x y : FQ} {r s : Rat} {k l : Nat} (h : FV x r k) (g : FV y s l) (e : r = s) : x = y:=FQ.ext (by rw [h.v,g.v,e])
theorem FV.ofInt {z : Int} {k : Nat} (h : z.natAbs ≤ 2 ^ k) (hk : k ≤ 696) : FV (FQ.ofInt z) (z : Rat) k:=⟨X5L (Sz.int h) hk,Sz.int h⟩
theorem FV.mul {x y : FQ} {r s : Rat} {k l : Nat} (h : FV x r k) (g : FV y s l) (hk : k + l ≤ 696) : FV (x.mul y) (r * s) (k + l):=by
 have q:=h.s.mul g.s
 refine ⟨?_,q⟩
 unfold FQ.mul lift2
 rw [h.v,g.v]
 exact X5L q hk
theorem FV.add {x y : FQ} {r s : Rat} {k l : Nat} (h : FV x r k) (g : FV y s l) (hk : k + l + 1 ≤ 696) : FV (x.add y) (r + s) (k + l + 1):=by
 have q:=h.s.add g.s
 refine ⟨?_,q⟩
 unfold FQ.add lift2
 rw [h.v,g.v]
 exact X5L q hk
theorem FV.sub {x y : FQ} {r s : Rat} {k l : Nat} (h : FV x r k) (g : FV y s l) (hk : k + l + 1 ≤ 696) : FV (x.sub y) (r - s) (k + l + 1):=by
 have q:=h.s.sub g.s
 refine ⟨?_,q⟩
 unfold FQ.sub lift2
 rw [h.v,g.v]
 exact X5L q hk
theorem FV.div {x y : FQ} {r s : Rat} {k l : Nat} (h : FV x r k) (g : FV y s l) (h0 : s ≠ 0) (hk : k + l ≤ 696) : FV (x.div y) (r / s) (k + l):=by
 have q:=h.s.div g.s h0
 refine ⟨?_,q⟩
 unfold FQ.div
 rw [h.v,g.v]
 simp only
 rw [if_neg h0]
 exact X5L q hk
theorem FV.neg {x : FQ} {r : Rat} {k : Nat} (h : FV x r k) : FV x.neg (-r) k:=by
 refine ⟨?_,h.s.neg⟩
 show Option.map (fun x=>-x) x.1 = _
 rw [h.v]; rfl
theorem FV.val {x : FQ} {r s : Rat} {k l : Nat} (h : FV x r k) (e : r = s) (g : Sz s l) : FV x s l:=⟨by rw [h.v,e],g⟩
def fst1 (P : Nat → Bool) : Nat → Nat → Nat
 | 0,k=>k
 | n + 1,k=>if P k = true then k else fst1 P n (k + 1)
theorem Y2B {P : Nat → Bool} : ∀ {n k : Nat},k ≤ fst1 P n k ∧ fst1 P n k ≤ k + n ∧ (∀ i,k ≤ i → i < fst1 P n k → P i = false) ∧ (fst1 P n k < k + n → P (fst1 P n k) = true)
 | 0,k=>⟨Nat.le_refl _,Nat.le_refl _,fun i h1 h2=>by have : i < k:=h2; omega,fun h=>by have : k < k + 0:=h; omega⟩
 | n + 1,k=>by
  unfold fst1
  by_cases h : P k = true
  ·rw [if_pos h]
   exact ⟨Nat.le_refl _,by omega,fun i h1 h2=>by omega,fun _=>h⟩
  ·rw [if_neg h]
   obtain ⟨h1,h2,h3,h4⟩:=Y2B (P:=P) (n:=n) (k:=k + 1)
   refine ⟨by omega,by omega,fun i a b=>?_,fun q=>h4 (by omega)⟩
   by_cases e : i = k
   ·subst e; simpa using h
   ·exact h3 i (by omega) b
def fstN (P : Nat → Bool) (n : Nat) : Nat:=fst1 P n 0
theorem Q0J {P : Nat → Bool} {n : Nat} : fstN P n ≤ n ∧ (∀ i,i < fstN P n → P i = false) ∧ (fstN P n < n → P (fstN P n) = true):=by
 obtain ⟨h1,h2,h3,h4⟩:=Y2B (P:=P) (n:=n) (k:=0)
 unfold fstN
 exact ⟨by omega,fun i hi=>h3 i (by omega) hi,fun h=>h4 (by omega)⟩
structure SP where
 M : Nat → Nat → FQ
 cost : Nat → FQ
 β : Nat → Nat
def clrF (tg row : Nat → FQ) (k : Nat) : Nat → FQ:=fun j=>if (tg k).num = 0 then tg j else if (row j).num = 0 then tg j else (tg j).add ((tg k).neg.mul (row j))
def rowF (s : SP) (r k : Nat) : Nat → FQ:=fun j=>(s.M r j).div (s.M r k)
def pivS (s : SP) (r k : Nat) : SP:=⟨fun i=>if i = r then rowF s r k else clrF (s.M i) (rowF s r k) k,clrF s.cost (rowF s r k) k,fun i=>if i = r then k else s.β i⟩
def bsg (s : SP) (k j : Nat) : Nat → Int → Int
 | 0,a=>a
 | i + 1,a=>if s.β i = k then sgZ (s.M i j).num else bsg s k j i a
def basB (β : Nat → Nat) (m j : Nat) : Bool:=decide (∃ i,i < m ∧ β i = j)
def dsg (s : SP) (m j : Nat) : Nat → Nat → Int → Int
 | 0,_,a=>a
 | f + 1,k,a=>if a ≠ 0 then a else if k = j then -1 else dsg s m j f (k + 1) (bsg s k j m 0)
def sgnS (s : SP) (m n j : Nat) (deep : Bool) : Int:=if deep = true then dsg s m j n 0 (sgZ (s.cost j).num) else sgZ (s.cost j).num
noncomputable def entS (s : SP) (m n : Nat) (deep : Bool) : Nat:=fstN (fun j=>!(basB s.β m j) && decide (0 < sgnS s m n j deep)) n
def lvS (s : SP) (N k : Nat) : Nat → Option (Nat × FQ)
 | 0=>none
 | i + 1=>if sgZ (s.M i k).num ≤ 0 then lvS s N k i else match lvS s N k i with
  | none=>some (i,(s.M i N).div (s.M i k))
  | some (b,low)=>if ((s.M i N).div (s.M i k)).cmp low < 0 ∨ (((s.M i N).div (s.M i k)).cmp low = 0 ∧ s.β i < s.β b) then some (i,(s.M i N).div (s.M i k)) else some (b,low)
theorem X7n {z : Int} : 0 < sgZ z ↔ 0 < z:=by unfold sgZ; repeat' split
                                              all_goals omega
theorem Q9T {z : Int} : sgZ z ≤ 0 ↔ z ≤ 0:=by unfold sgZ; repeat' split
                                              all_goals omega
theorem Q1c {z : Int} : sgZ z = 0 ↔ z = 0:=by unfold sgZ; repeat' split
                                              all_goals omega
theorem Y6L {z : Int} : sgZ z < 0 ↔ z < 0:=by unfold sgZ; repeat' split
                                              all_goals omega
theorem Y9z {r : Rat} : 0 < r.num ↔ 0 < r:=by
 have h1:=Rat.num_nonneg (q:=r)
 have h2:=Rat.num_eq_zero (q:=r)
 constructor
 ·intro h
  have a:=h1.1 (by omega)
  have b : r ≠ 0:=fun e=>by have:=h2.2 e; omega
  grind
 ·intro h
  have a:=h1.2 (by grind)
  have b : r.num ≠ 0:=fun e=>by have:=h2.1 e; grind
  omega
theorem FV.sg_pos {x : FQ} {r : Rat} {k : Nat} (h : FV x r k) : 0 < sgZ x.num ↔ 0 < r:=by rw [X7n,h.numv,Y9z]
theorem FV.sg_zero {x : FQ} {r : Rat} {k : Nat} (h : FV x r k) : sgZ x.num = 0 ↔ r = 0:=by rw [Q1c,h.num]
theorem FV.sg_nonpos {x : FQ} {r : Rat} {k : Nat} (h : FV x r k) : sgZ x.num ≤ 0 ↔ r ≤ 0:=by
 rw [← Int.not_lt,h.sg_pos]
 constructor
 ·intro q; rcases Q0v 0 r with w | w
  ·exact absurd w q
  ·exact w
 ·intro q w; grind
theorem FV.den {x : FQ} {r : Rat} {k : Nat} (h : FV x r k) : x.den = r.den:=by unfold FQ.den; rw [h.v]
theorem Y8H {a b : Int} : cmpZ a b < 0 ↔ a < b:=by unfold cmpZ; repeat' split
                                                   all_goals omega
theorem Y8I {a b : Int} : cmpZ a b = 0 ↔ a = b:=by unfold cmpZ; repeat' split
                                                   all_goals omega
theorem Y1m {r s : Rat} : r.num * (s.den : Int) < s.num * (r.den : Int) ↔ r < s:=(Rat.lt_iff r s).symm
theorem FV.cmp_lt {x y : FQ} {r s : Rat} {k l : Nat} (h : FV x r k) (g : FV y s l) : x.cmp y < 0 ↔ r < s:=by
 unfold FQ.cmp
 rw [Y8H,h.numv,g.numv,h.den,g.den,Y1m]
theorem FV.cmp_eq {x y : FQ} {r s : Rat} {k l : Nat} (h : FV x r k) (g : FV y s l) : x.cmp y = 0 ↔ r = s:=by
 unfold FQ.cmp
 rw [Y8I,h.numv,g.numv,h.den,g.den]
 constructor
 ·intro e
  have h1 : ¬ r < s:=fun w=>by have:=Y1m.2 w; omega
  have h2 : ¬ s < r:=fun w=>by have:=Y1m.2 w; omega
  rcases Q0v r s with w | w
  ·exact absurd w h1
  ·rcases Q0v s r with w2 | w2
   ·exact absurd w2 h2
   ·grind
 ·rintro rfl; rfl
theorem Sz.of_ib {r δ : Rat} {a b k : Nat} (h : IB (r * δ) a) (g : IB δ b) (h0 : δ ≠ 0) (ha : a ≤ 2 ^ k) (hb : b ≤ 2 ^ k) : Sz r k:=by
 obtain ⟨z,e1,h1⟩:=h
 obtain ⟨w,e2,h2⟩:=g
 have hw : w ≠ 0:=by rintro rfl; apply h0; rw [e2]; rfl
 have hr : r = (z : Rat) / (w : Rat):=by
  rw [← e1,← e2,Rat.div_def,Rat.mul_assoc,Rat.mul_inv_cancel _ h0,Rat.mul_one]
 have hwr : (w : Rat) ≠ 0:=by rw [← e2]; exact h0
 rcases Int.lt_trichotomy w 0 with q | q | q
 ·refine ⟨-z,w.natAbs, ?_,by omega,by omega,by omega⟩
  have hn : ((w.natAbs : Nat) : Rat) = -(w : Rat):=by
   rw [show ((w.natAbs : Nat) : Rat) = (((w.natAbs : Nat) : Int) : Rat) from rfl,show ((w.natAbs : Nat) : Int) = -w by omega]; push_cast; rfl
  rw [hr,hn]; push_cast; grind
 ·exact absurd q hw
 ·refine ⟨z,w.natAbs, ?_,by omega,by omega,by omega⟩
  have hn : ((w.natAbs : Nat) : Rat) = (w : Rat):=by
   rw [show ((w.natAbs : Nat) : Rat) = (((w.natAbs : Nat) : Int) : Rat) from rfl,show ((w.natAbs : Nat) : Int) = w by omega]
  rw [hr,hn]
theorem Y9X {B m k : Nat} (hB : 1 ≤ B) (h : m ≤ k) : bnd B m ≤ bnd B k:=by
  induction k with
  | zero=>obtain rfl : m = 0:=by omega
          exact Nat.le_refl _
  | succ k ih =>
    rcases Nat.lt_or_eq_of_le h with q | rfl
    · have h1:=ih (by omega)
      show _ ≤ (k + 1) * (B * bnd B k)
      have h2 : 1 * bnd B k ≤ B * bnd B k:=Nat.mul_le_mul_right _ hB
      have h3 : 1 * (B * bnd B k) ≤ (k + 1) * (B * bnd B k):=Nat.mul_le_mul_right _ (by omega)
      omega
    · exact Nat.le_refl _
theorem Y2Q {m : Nat} (h : m ≤ 20) : bnd 100 m ≤ 2 ^ 195:=Nat.le_trans (Y9X (by decide) h) (by decide +kernel)
theorem bnd_g {m : Nat} (h : m ≤ 20) : (m + 1) * (100 * bnd 100 m) ≤ 2 ^ 207:=by
 have h1:=Y2Q h
 have h2 : (m + 1) * (100 * bnd 100 m) ≤ 21 * (100 * 2 ^ 195):=Nat.mul_le_mul (by omega) (Nat.mul_le_mul_left _ h1)
 exact Nat.le_trans h2 (by decide +kernel)
structure SR (p : LP) (c : Nat → Rat) (m N : Nat) (s : SP) (t : Tb) : Prop where
 beta : ∀ i,i < m → s.β i = t.β i
 val : ∀ i j,i < m → j ≤ N → FV (s.M i j) (t.A i j) 195
 cost : ∀ j,j ≤ N → FV (s.cost j) (gain m t c j) 207
theorem Bd.sz {p : LP} {m N : Nat} {t : Tb} {δ : Rat} (h : Bd p 100 m N t δ) (hm : p.m ≤ 20) {i j : Nat} (hi : i < m) (hj : j ≤ N) : Sz (t.A i j) 195:=by
 obtain ⟨h1,h2,h3⟩:=h.val
 exact Sz.of_ib (h3 i j hi hj) h2 h1 (Y2Q hm) (Y2Q hm)
theorem Bd.szg {p : LP} {m N : Nat} {t : Tb} {δ : Rat} (h : Bd p 100 m N t δ) (hm : p.m ≤ 20) (hmm : m ≤ p.m) {c : Nat → Rat} (hc : ∀ j,IB (c j) 100) {s : Nat} (hs : s ≤ m) {j : Nat} (hj : j ≤ N) : Sz (c j - sm s (fun i=>c (t.β i) * t.A i j)) 207:=by
 obtain ⟨h1,h2,h3⟩:=h.val
 exact Sz.of_ib (h.gain hc hmm hs j hj) h2 h1 (bnd_g hm) (Nat.le_trans (Y2Q hm) (Nat.pow_le_pow_right (by omega) (by omega)))
theorem Y1p {tg row : Nat → FQ} {k j l : Nat} {a q : Nat → Rat} (hk : FV (tg k) (a k) l) (hj : FV (tg j) (a j) l) (hr : FV (row j) (q j) 195) (hl : l ≤ 207) (hs : Sz (a j - a k * q j) l) : FV (clrF tg row k j) (a j - a k * q j) l:=by
 unfold clrF
 split
 ·rename_i h0
  have : a k = 0:=hk.num.1 h0
  exact hj.val (by rw [this]; grind) hs
 ·split
  ·rename_i h1
   have : q j = 0:=hr.num.1 h1
   exact hj.val (by rw [this]; grind) hs
  ·exact (hj.add (hk.neg.mul hr (by omega)) (by omega)).val (by grind) hs
theorem SR.piv {p : LP} {c : Nat → Rat} {m N : Nat} {s : SP} {t : Tb} {δ : Rat} (h : SR p c m N s t) (ht : Tab m N t) (hb : Bd p 100 m N t δ) (hm : p.m ≤ 20) (hmm : m ≤ p.m) (hc : ∀ j,IB (c j) 100) {r k : Nat} (hr : r < m) (hk : k < N) (h0 : t.A r k ≠ 0) :
  SR p c m N (pivS s r k) (t.piv r k):=by
 have hb':=hb.piv hr hk h0
 have hrow : ∀ j,j ≤ N → FV (rowF s r k j) (t.q r k j) 195:=fun j hj=>by
  have h1:=(h.val r j hr hj).div (h.val r k hr (by omega)) h0 (by omega)
  refine h1.val rfl ?_
  have h2:=hb'.sz hm hr hj
  have e : (t.piv r k).A r j = t.q r k j:=if_pos rfl
  rwa [e] at h2
 refine ⟨fun i hi=>?_,fun i j hi hj=>?_,fun j hj=>?_⟩
 ·show (if i = r then k else s.β i) = if i = r then k else t.β i
  rw [h.beta i hi]
 ·show FV ((if i = r then rowF s r k else clrF (s.M i) (rowF s r k) k) j) (if i = r then t.q r k j else t.A i j - t.A i k * t.q r k j) 195
  by_cases e : i = r
  ·rw [if_pos e,if_pos e]; exact hrow j hj
  ·rw [if_neg e,if_neg e]
   refine Y1p (a:=fun j=>t.A i j) (q:=fun j=>t.q r k j) (h.val i k hi (by omega)) (h.val i j hi hj) (hrow j hj) (by omega) ?_
   have h2:=hb'.sz hm hi hj
   have e2 : (t.piv r k).A i j = t.A i j - t.A i k * t.q r k j:=if_neg e
   rwa [e2] at h2
 ·show FV (clrF s.cost (rowF s r k) k j) _ 207
  rw [Y4I ht hr h0]
  refine Y1p (a:=fun j=>gain m t c j) (q:=fun j=>t.q r k j) (h.cost k (by omega)) (h.cost j hj) (hrow j hj) (by omega) ?_
  rw [← Y4I ht hr h0]
  exact hb'.szg hm hmm hc (Nat.le_refl _) hj
end Go.Proofs.YtchlpclgkhggeaaGreat