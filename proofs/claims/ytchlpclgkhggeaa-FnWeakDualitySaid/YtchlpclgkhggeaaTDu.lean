/- part of the proof -/
import Derived.Test.YtchlpclgkhggeaaTFc
import Derived.ProofKit
import Derived.Test.YtchlpclgkhggeaaTGa
import Derived.Test.YtchlpclgkhggeaaTXb
namespace Go.Proofs.Ytchlpclgkhggeaa
open Go Go.RowKit
set_option linter.unusedVariables false
set_option linter.unusedSimpArgs false
mutual
inductive Rd (P : Program) : TypeId → List V → Prop
 | int (t : TypeId) (k : IntKind) (n : Int) : P.underlying t = some (.int k) → (Lit.int k n).wf = true → Rd P t [.lit (.int k n)]
 | bool (t : TypeId) (b : Bool) : P.underlying t = some .bool → Rd P t [.lit (.bool b)]
 | slice (t e : TypeId) (n : Nat) (cs : List V) : P.underlying t = some (.slice e) → n ≤ maxLen → RdN P e n cs → Rd P t [.sl .b (P.cellsOf e) n cs]
 | struct (t : TypeId) (fs : Array Field) (vs : List V) : P.underlying t = some (.struct fs) → RdS P (fs.toList.map (·.type)) vs → Rd P t vs
inductive RdN (P : Program) : TypeId → Nat → List V → Prop
 | zero (e : TypeId) : RdN P e 0 []
 | succ (e : TypeId) (n : Nat) (vs ws : List V) : Rd P e vs → vs.length = P.cellsOf e → RdN P e n ws → RdN P e (n + 1) (vs ++ ws)
inductive RdS (P : Program) : List TypeId → List V → Prop
 | nil : RdS P [] []
 | cons (t : TypeId) (ts : List TypeId) (vs ws : List V) : Rd P t vs → vs.length = P.cellsOf t → RdS P ts ws → RdS P (t :: ts) (vs ++ ws)
end
def tiled (P : Program) : Nat → List Field → Bool
 | _,[]=>true
 | o,f :: fs=>Nat.beq f.offset o && tiled P (o + P.cellsOf f.type) fs
def ends (P : Program) : Nat → List Field → Nat
 | o,[]=>o
 | o,f :: fs=>ends P (o + P.cellsOf f.type) fs
def plainT (P : Program) : Nat → TypeId → Bool
 | 0,_=>false
 | n + 1,t=>match P.underlying t with
  | some (.int _)=>true
  | some .bool=>true
  | some (.slice e)=>plainT P n e && Nat.blt 0 (P.cellsOf e)
  | some (.struct fs)=>fs.toList.all (fun f=>plainT P n f.type) && tiled P 0 fs.toList && Nat.beq (ends P 0 fs.toList) (P.cellsOf t)
  | _=>false
section
variable {H : Type} {enc : TypeId × Value → H} {P : Program} {w : World} {held : Bool}
abbrev Old (w : World) : BS:=fun b=>b < w.heap.size
theorem Y7x {a : Addr} {i j : Nat} (h : a.spot = none) : (a.add i).add j = ⟨a.block,a.off + i + j,none⟩:=by
 obtain ⟨b,o,s⟩:=a
 obtain rfl : s = none:=h
 rw [Addr.mid,Addr.mid]
theorem X8A : ∀ {n fuel : Nat} {t : TypeId} {cs : List Value} {x : DataW H × List MemPlace},plainT P n t = true → DataW.trod enc P w 0 (fun _=>true) held fuel t cs = some x →
  ∃ vs,Rd P t vs ∧ vs.length = cs.length ∧ ∀ S : BS,RepL w S (Old w) [] vs cs []
 | 0,_,_,_,_,h,_=>by cases h
 | n + 1,fuel,t,cs,x,hp,h=>by
  unfold plainT at hp
  split at hp
  ·rename_i k ht
   obtain ⟨m,rfl,_,hw⟩:=DataW.trod_int ht h
   exact ⟨_,.int t k m ht hw,rfl,fun S=>⟨_,[],[],[],rfl,rfl,⟨rfl,rfl,rfl⟩,rfl,rfl⟩⟩
  ·rename_i ht
   obtain ⟨b,rfl,_⟩:=DataW.trod_bool ht h
   exact ⟨_,.bool t b ht,rfl,fun S=>⟨_,[],[],[],rfl,rfl,⟨rfl,rfl,rfl⟩,rfl,rfl⟩⟩
  ·rename_i e ht
   simp only [Bool.and_eq_true] at hp
   have hk : 0 < P.cellsOf e:=by have:=hp.2; simp [Nat.blt] at this; omega
   rcases DataW.trod_slice ht h with ⟨rfl,_⟩ | ⟨a,len,cap,elems,rest,m,_,rfl,_,_,hlc,hcm,hel,hall,_,_⟩
   ·exact ⟨_,.slice t e 0 [] ht (Nat.zero_le _) (.zero e),rfl,fun S=>⟨_,[],[],[],rfl,rfl,⟨none,0,rfl,Nat.le_refl _,Nat.zero_le _,by simp,.inl ⟨rfl,rfl,fun _=>rfl⟩⟩,rfl,rfl⟩⟩
   ·have hspot : 0 < len → a.spot = none ∧ a.block < w.heap.size:=by
     intro hpos
     have h0:=hall 0 hpos
     have hlt : 0 < elems.length:=by omega
     rw [List.getElem?_eq_getElem hlt] at h0
     cases hc : w.cells? 0 (a.add (0 * P.cellsOf e)) (P.cellsOf e) with
     | none=>rw [hc] at h0; cases h0
     | some c0 =>
      obtain ⟨_,hl,hcell⟩:=World.cells?_some hc
      have:=hcell 0 hk
      have e0 : (a.add (0 * P.cellsOf e)).add 0 = a:=by simp [Addr.add]
      rw [e0] at this
      have hs : (w.cell? a).isSome = true:=by rw [this,List.getElem?_eq_getElem (by omega)]; rfl
      unfold World.cell? at hs
      split at hs
      ·rename_i hb
       refine ⟨?_,(Array.getElem?_eq_some_iff.1 hb).1⟩
       split at hs
       ·cases hs
       ·rename_i hns; cases hsp : a.spot <;> simp_all
      ·cases hs
    have key : ∀ m i,i + m = len → ∃ vs,RdN P e m vs ∧ vs.length = m * P.cellsOf e ∧ ∀ S : BS,Mem w S (Old w) [] vs a.block (a.off + i * P.cellsOf e) []:=by
     intro m
     induction m with
     | zero=>intro i _; exact ⟨[],.zero e,by simp,fun S=>rfl⟩
     | succ m ih =>
      intro i hi
      obtain ⟨ws,h1,h2,h3⟩:=ih (i + 1) (by omega)
      have hi':=hall i (by omega)
      have hlt : i < elems.length:=by omega
      rw [List.getElem?_eq_getElem hlt] at hi'
      cases hc : w.cells? 0 (a.add (i * P.cellsOf e)) (P.cellsOf e) with
      | none=>rw [hc] at hi'; cases hi'
      | some ci =>
       rw [hc] at hi'
       obtain ⟨vs,g1,g2,g3⟩:=X8A hp.1 hi'
       obtain ⟨_,hl,hcell⟩:=World.cells?_some hc
       refine ⟨vs ++ ws,.succ e m vs ws g1 (by omega) h1,by rw [List.length_append,h2,g2,hl,Nat.succ_mul]; omega,fun S=>?_⟩
       refine Mem.append.2 ⟨[],[],rfl,Mem.of_vals (g3 S) ?_, ?_⟩
       ·intro j v hj
        have hjl:=(List.getElem?_eq_some_iff.1 hj).1
        have:=hcell j (by omega)
        rw [Y7x (hspot (by omega)).1,hj] at this
        exact this
       ·have:=h3 S
        rw [Nat.succ_mul,← Nat.add_assoc] at this
        rw [g2,hl]; exact this
    obtain ⟨vs,h1,h2,h3⟩:=key len 0 (by omega)
    refine ⟨_,.slice t e len vs ht (by omega) h1,rfl,fun S=>⟨_,[],[],[],rfl,rfl,⟨some a,cap,rfl,hlc,hcm,h2, ?_⟩,rfl,rfl⟩⟩
    by_cases hz : len = 0
    ·exact .inl ⟨hz,rfl,fun h=>by cases h⟩
    ·obtain ⟨hs,hb⟩:=hspot (by omega)
     refine .inr ⟨a.block,a.off,[], ?_, ?_,.inr hb,rfl,rfl⟩
     ·obtain ⟨b,o,s⟩:=a; obtain rfl : s = none:=hs; rfl
     ·have:=h3 S; rw [Nat.zero_mul,Nat.add_zero] at this; exact this
  ·rename_i fs ht
   simp only [Bool.and_eq_true,List.all_eq_true] at hp
   obtain ⟨xs,m,_,_,hcl,hxl,hall⟩:=DataW.trod_struct ht h
   have hend : ends P 0 fs.toList = P.cellsOf t:=by simpa using hp.2
   have key : ∀ (l : List Field) (o : Nat),tiled P o l = true → (∀ f ∈ l,plainT P n f.type = true) → (∀ f ∈ l,∃ y,DataW.trod enc P w 0 (fun _=>true) held m f.type ((cs.drop f.offset).take (P.cellsOf f.type)) = some y) →
     ends P o l = cs.length → ∃ vs,RdS P (l.map (·.type)) vs ∧ o + vs.length = cs.length ∧ ∀ S : BS,RepL w S (Old w) [] vs (cs.drop o) []:=by
    intro l
    induction l with
    | nil =>
     intro o _ _ _ he
     have he : o = cs.length:=he
     exact ⟨[],.nil,by simpa using he,fun S=>⟨by rw [he]; simp,rfl⟩⟩
    | cons f l ih =>
     intro o ht hpl htr he
     unfold tiled at ht
     simp only [Bool.and_eq_true,Nat.beq_eq_true_eq] at ht
     have ho : f.offset = o:=by simpa using ht.1
     obtain ⟨ws,h1,h2,h3⟩:=ih (o + P.cellsOf f.type) ht.2 (fun f hf=>hpl f (by simp [hf])) (fun f hf=>htr f (by simp [hf])) he
     obtain ⟨y,hy⟩:=htr f (by simp)
     obtain ⟨vs,g1,g2,g3⟩:=X8A (hpl f (by simp)) hy
     rw [ho] at g2 g3
     have hlen : vs.length = P.cellsOf f.type:=by rw [g2,List.length_take,List.length_drop]; omega
     refine ⟨vs ++ ws,.cons _ _ vs ws g1 hlen h1,by rw [List.length_append]; omega,fun S=>?_⟩
     have:=(g3 S).nils (h3 S)
     rw [← List.drop_drop,List.take_append_drop] at this
     exact this
   have hfs : ∀ f ∈ fs.toList,∃ y,DataW.trod enc P w 0 (fun _=>true) held m f.type ((cs.drop f.offset).take (P.cellsOf f.type)) = some y:=by
    intro f hf
    obtain ⟨i,hi⟩:=List.getElem?_of_mem hf
    have hi' : fs[i]? = some f:=by simpa using hi
    have hlt : i < xs.length:=by rw [hxl]; exact (Array.getElem?_eq_some_iff.1 hi').1
    exact ⟨xs[i],by rw [hall i f hi',List.getElem?_eq_getElem hlt]⟩
   obtain ⟨vs,h1,h2,h3⟩:=key fs.toList 0 hp.1.2 (fun f hf=>hp.1.1 f hf) hfs (by rw [hend,hcl])
   exact ⟨vs,.struct t fs vs ht h1,by omega,fun S=>by have:=h3 S; simpa using this⟩
  ·cases hp
inductive RdV (P : Program) : TypeId → V → Prop
 | struct (t : TypeId) (fs : Array Field) (vs : List V) : P.underlying t = some (.struct fs) → Rd P t vs → RdV P t (.agg vs)
 | one (t : TypeId) (v : V) : Rd P t [v] → RdV P t v
inductive RdA (P : Program) : List TypeId → List V → Prop
 | nil : RdA P [] []
 | cons (t : TypeId) (ts : List TypeId) (v : V) (vs : List V) : RdV P t v → RdA P ts vs → RdA P (t :: ts) (v :: vs)
open Go.WideShapes in
theorem Y3X {n : Nat} {t : TypeId} {v : Value} {d : DataW H} {ps : List MemPlace} {base : Nat} (hp : plainT P n t = true) (hv : Value.okWide P w .any base t v) (h : DataW.Trod enc P w 0 (fun _=>true) held t v d ps) :
  ∃ a,RdV P t a ∧ ∀ S : BS,Rep w S (Old w) [] a v []:=by
 obtain ⟨fuel,h⟩:=h
 obtain ⟨vs,h1,h2,h3⟩:=X8A hp h
 have one : v.cells.toList = [v] → ∃ a,RdV P t a ∧ ∀ S : BS,Rep w S (Old w) [] a v []:=by
  intro e
  rw [e] at h2 h3
  obtain ⟨a,rfl⟩:=List.length_eq_one_iff.1 h2
  refine ⟨a,.one t a h1,fun S=>?_⟩
  obtain ⟨x,xs,u1,u2,e1,e2,e3,e4⟩:=h3 S
  cases e1
  have : u1 = []:=by cases u1 with | nil=>rfl | cons _ _=>simp at e2
  subst this; exact e3
 cases n with
 | zero=>cases hp
 | succ n =>
  unfold plainT at hp
  split at hp
  ·rename_i k ht
   obtain ⟨m,rfl⟩:=okWide_int ht hv
   exact one rfl
  ·rename_i ht
   obtain ⟨b,rfl⟩:=okWide_bool ht hv
   exact one rfl
  ·rename_i e ht
   have : ∀ cs,v ≠ .agg cs:=by
    rintro cs rfl
    simp only [Value.okWide,ht,Cell.okWide,Cell.ok] at hv
   refine one ?_
   unfold Value.cells
   split
   ·exact absurd rfl (this _)
   ·rfl
  ·rename_i fs ht
   obtain ⟨cs,rfl,_⟩:=okWide_struct ht hv
   exact ⟨.agg vs,.struct t fs vs ht h1,fun S=>⟨cs,rfl,h3 S⟩⟩
  ·cases hp
theorem X9I {n : Nat} {base : Nat} : ∀ {ts : List TypeId} {args : List Value} {ds : List (DataW H)} {ps : List MemPlace},(∀ t ∈ ts,plainT P n t = true) → (∀ (j : Nat) t v,ts[j]? = some t → args[j]? = some v → Value.okWide P w .any base t v) →
  DataW.TrodAll enc P w 0 (fun _=>true) held ts args ds ps → ∃ av,RdA P ts av ∧ ∀ S : BS,RepL w S (Old w) [] av args []
 | [],[],[],_,_,_,_=>⟨[],.nil,fun S=>⟨rfl,rfl⟩⟩
 | t :: ts,v :: vs,d :: ds,ps,hp,hv,⟨p,q,h1,h2,_⟩=>by
  obtain ⟨a,e1,e2⟩:=Y3X (hp t (by simp)) (hv 0 t v rfl rfl) h1
  obtain ⟨av,e3,e4⟩:=X9I (fun t ht=>hp t (by simp [ht])) (fun j t v h1 h2=>hv (j + 1) t v (by simpa using h1) (by simpa using h2)) h2
  exact ⟨a :: av,.cons _ _ _ _ e1 e3,fun S=>⟨v,vs,[],[],rfl,rfl,e2 S,e4 S⟩⟩
theorem X0C (hl : laidOutB P = true) {w' : World} (hb : Below w.heap.size w w') : ∀ {ts : List TypeId} {args : List Value} {ds : List (DataW H)} {ps : List MemPlace},(∀ t ∈ ts,P.readableRec t = true ∧ t < P.types.size) →
  DataW.TrodAll enc P w 0 (fun _=>true) true ts args ds ps → (∀ x ∈ ps,x.block < w.heap.size) → DataW.TrodAll enc P w' 0 (fun b=>decide (b < w.heap.size)) true ts args ds ps
 | [],[],[],_,_,h,_=>h
 | t :: ts,v :: vs,d :: ds,ps,hr,⟨p,q,h1,h2,e⟩,hlt=>by
  subst e
  exact ⟨p,q,Below.trod hl (hr t (by simp)).1 (hr t (by simp)).2 h1 hb (fun x hx=>hlt x (by simp [hx])),X0C hl hb (fun t ht=>hr t (by simp [ht])) h2 (fun x hx=>hlt x (by simp [hx])),rfl⟩
theorem Y2I {f : FuncId} {fn : Func} {s : ChangeSpec} {n tb : Nat} (hl : laidOutB P = true) (hr : ∀ t ∈ fn.params.toList,P.readableRec t = true ∧ t < P.types.size) (hp : ∀ t ∈ fn.params.toList,plainT P n t = true)
  (hb : fn.resultTypes = #[tb]) (htb : P.underlying tb = some .bool) (hvars : s.vars = [])
  (hs : ∀ ds : List (DataW H),ds.length = fn.params.size → s.fn H (ds ++ []) = { results:=[.lit (.bool true)],args:=ds })
  (hpc : ∀ av,RdA P fn.params.toList av → PC P f av (.lit (.bool true)) [])
  {W : World} {base : Nat} {args : Array Value} {ds gs : List (DataW H)} {before : List MemPlace}
  (hval : ∀ (j : Nat) t v,fn.params[j]? = some t → args[j]? = some v → Value.okWide P W .any base t v)
  (hW : DataW.Whole enc P fn.params.toList s.vars false W args.toList ds gs before) :
  Calls P f args W fun e W'=>∃ v,e = .returned v ∧ s.post enc P fn false true false false W args v W':=by
 obtain ⟨p,q,hA,hV,rfl,hfz,_⟩:=hW
 have hW' : DataW.Whole enc P fn.params.toList s.vars false W args.toList ds gs (p ++ q):=⟨p,q,hA,hV,rfl,hfz,by simp⟩
 rw [hvars] at hV
 obtain ⟨rfl,rfl⟩ : gs = [] ∧ q = []:=by
  cases gs with
  | nil=>exact ⟨rfl,hV⟩
  | cons _ _=>exact hV.elim
 obtain ⟨av,h1,h2⟩:=X9I hp (fun j t v h3 h4=>hval j t v (by simpa using h3) (by simpa using h4)) hA
 have hlen : ds.length = fn.params.size:=by
  have key : ∀ {ts : List TypeId} {vs : List Value} {ds : List (DataW H)} {ps : List MemPlace},DataW.TrodAll enc P W 0 (fun _=>true) true ts vs ds ps → ds.length = ts.length:=by
   intro ts
   induction ts with
   | nil=>intro vs ds ps h; cases vs <;> cases ds <;> first | rfl | exact h.elim
   | cons t ts ih =>
    intro vs ds ps h
    cases vs with
    | nil=>exact h.elim
    | cons v vs =>
     cases ds with
     | nil=>exact h.elim
     | cons d ds=>obtain ⟨_,_,_,h2,_⟩:=h; simp [ih h2]
  simpa using key hA
 have hcall:=(hpc av h1).2 W (fun _=>False) (Old W) args.toList (fun b hb=>hb.elim (fun h=>h.elim) (fun h=>h)) (h2 _)
 refine Calls.mono hcall ?_
 rintro e W' ⟨x,rfl,hbl,κ',S',uss',_,_,hr',_⟩
 obtain ⟨_,rfl,_⟩:=hr'
 refine ⟨_,rfl,ds,[],p ++ [],[],p,[],hW', ?_, ?_, ?_,hbl.frame _,by intro h; cases h⟩
 ·rw [hs ds hlen,hb]
  exact ⟨[],[],⟨1,by simp [DataW.trod,htb,Value.cells]⟩,rfl,rfl⟩
 ·rw [hs ds hlen]
  exact X0C hl hbl hr hA (fun x hx=>hW'.lt x (by simpa using hx))
 ·rw [hvars,hs ds hlen]
  rfl
theorem Y9O {t : TypeId} {k : IntKind} {vs : List V} (ht : P.underlying t = some (.int k)) (h : Rd P t vs) : ∃ n,vs = [.lit (.int k n)] ∧ (Lit.int k n).wf = true:=by
 cases h with
 | int _ k' n h1 h2=>rw [ht] at h1; cases h1; exact ⟨n,rfl,h2⟩
 | bool _ b h1=>rw [ht] at h1; cases h1
 | slice _ e n cs h1=>rw [ht] at h1; cases h1
 | struct _ fs vs h1=>rw [ht] at h1; cases h1
theorem Y4u {t e : TypeId} {vs : List V} (ht : P.underlying t = some (.slice e)) (h : Rd P t vs) : ∃ n cs,vs = [.sl .b (P.cellsOf e) n cs] ∧ n ≤ maxLen ∧ RdN P e n cs:=by
 cases h with
 | int _ k' n h1 h2=>rw [ht] at h1; cases h1
 | bool _ b h1=>rw [ht] at h1; cases h1
 | slice _ e n cs h1 h2 h3=>rw [ht] at h1; cases h1; exact ⟨n,cs,rfl,h2,h3⟩
 | struct _ fs vs h1=>rw [ht] at h1; cases h1
theorem Y6l {t : TypeId} {v : V} (h : RdV P t v) : (∃ fs vs,P.underlying t = some (.struct fs) ∧ v = .agg vs ∧ Rd P t vs) ∨ Rd P t [v]:=by
 cases h
 ·rename_i fs vs h1 h2; exact .inl ⟨fs,vs,h1,rfl,h2⟩
 ·rename_i h; exact .inr h
theorem Y6k {t : TypeId} {v : V} (hns : ∀ fs,P.underlying t ≠ some (.struct fs)) (h : RdV P t v) : Rd P t [v] :=
 (Y6l h).resolve_left fun ⟨fs,_,h1,_⟩=>hns fs h1
end
open Go Go.RowKit Go.ChangeShapes Go.WideShapes Go.ChangeAt
set_option maxRecDepth 100000
theorem ownKnobP : ownKnob PP.godebug = none:=by kernel_rfl
theorem laidOutP : laidOutB PP = true:=by kernel_rfl
theorem Y9d : PP.underlying X4Z = some .bool:=by kernel_rfl
set_option maxHeartbeats 4000000
theorem X3V {H : List Ob} : RtG 0 H (.tup [.agg [.lit (.bool false),.emp,.emp],Bo false]) (toO FQ.bad) (rH (qd FQ.bad)):=by
 rw [Y5P,Q9n]
 exact RtG.ren [none,none] [[],[]] trivial (by decide) (by simp -dsimp only [go_sem,simprocAttr]; simp [iC]) lW
theorem Y5j (f : Fl) (hf : f ≠ .u) (x : FQ) : GC PP X5c [pQ f x] [] (toO x) (rH (qd x)):=by
 cases hx : x.good
 ·obtain rfl : x = FQ.bad:=by
   apply FQ.ext
   unfold FQ.good at hx
   cases e : x.1 with
   | none=>rfl
   | some r=>rw [e] at hx; cases hx
  refine txg X4U Q7W 0 [] [] [] rfl (by kernel_rfl) ?_
  simp -dsimp(disch:=first|exact om|fail)only[go_sem,simprocAttr,xE,xN,xC,xP,xA,xZ,hx]
  exact X3V
 ·unfold toO
  rw [hx]
  refine txg X4U Q7W 0 [] [] [] rfl (by kernel_rfl) ?_
  simp -dsimp(disch:=first|exact om|fail)only[go_sem,simprocAttr,xE,xN,xC,xP,xA,xZ,hx]
  refine callO' (X6q f hf x) lL lF ?_
  simp -dsimp(disch:=first|exact om|fail)only[go_sem,simprocAttr,xE,xN,xC,xP,xA,xZ]
  exact RtG.nothing [some 1,some 2] lE (by decide) lS lE
def rowQ (c : Nat) (g : Nat → FQ) : List FQ:=(List.range c).map g
@[go_sem] theorem Q0f {c : Nat} {g : Nat → FQ} : (rowQ c g).length = c:=by simp [rowQ]
theorem Q8P {c : Nat} {g : Nat → FQ} {k : Nat} (h : k < c) : (rowQ c g).getD k FQ.bad = g k:=by simp [rowQ,h]
def MD.zero : MD:=⟨0,0,[]⟩
def MD.ok (m : MD) : Bool:=decide (0 ≤ m.rows ∧ m.rows ≤ 24) && decide (0 ≤ m.cols ∧ m.cols ≤ 24) && decide ((m.cells.length : Int) = m.rows * m.cols) && m.cells.all RD.ok
@[go_sem] theorem Y9F {c : Nat} {g : Nat → FQ} {k : Nat} (h : OM (k < c)) : (rowQ c g).getD k FQ.bad = g k:=Q8P h
section
variable {lt : List Nat} {s : St} {t u : TypeId} {x y z : Operand} {n : Nat} {b : BinOp} {c : UnOp} {k : Call} {a : Array (Nat × Operand)}
@[go_sem ↓] theorem Y9x : sepO lt (.load t x) s = True:=(rfl)
@[go_sem ↓] theorem Y9w : sepO lt (.move x) s = True:=(rfl)
@[go_sem ↓] theorem Y6b : sepO lt (.assign x) s = True:=(rfl)
@[go_sem ↓] theorem Y9v : sepO lt (.nilCheck x) s = True:=(rfl)
@[go_sem ↓] theorem Z4B : sepO lt (.fieldAddr t x n) s = True:=(rfl)
@[go_sem ↓] theorem Z4z : sepO lt (.indexAddr t x y) s = True:=(rfl)
@[go_sem ↓] theorem Z2i : sepO lt (.binOp b t x y u) s = True:=(rfl)
@[go_sem ↓] theorem Z4y : sepO lt (.unOp c t x) s = True:=(rfl)
@[go_sem ↓] theorem Y9u : sepO lt (.pick x y z) s = True:=(rfl)
@[go_sem ↓] theorem Y9y : sepO lt (.call k) s = True:=(rfl)
@[go_sem ↓] theorem Z2h : sepO lt (.box t x) s = True:=(rfl)
@[go_sem ↓] theorem Y7K : sepO lt (.alloc t) s = True:=(rfl)
@[go_sem ↓] theorem Y7J : sepO lt (.build t a) s = True:=(rfl)
@[go_sem ↓] theorem Z2g : sepO lt (.buildSlice t n a) s = True:=(rfl)
@[go_sem ↓] theorem Z4C : sepO lt (.extract x n) s = True:=(rfl)
@[go_sem ↓] theorem Z4A : sepO lt (.field t x n) s = True:=(rfl)
end
theorem Y5f {l : List FQ} : allG l = true ↔ ∀ x ∈ l,x.good = true:=by unfold allG; rw [List.all_eq_true]
mutual
def V.tb : V → V
 | .ptr .s cs=>.ptr .b (V.tbL cs)
 | .sl .s sz n cs=>.sl .b sz n (V.tbL cs)
 | .agg vs=>.agg (V.tbL vs)
 | .tup vs=>.tup (V.tbL vs)
 | v=>v
def V.tbL : List V → List V
 | []=>[]
 | v :: vs=>V.tb v :: V.tbL vs
end
mutual
def V.onlyS : V → Prop
 | .any | .lit _ | .emp=>True
 | .ptr .s cs=>V.onlySL cs
 | .sl .s _ _ cs=>V.onlySL cs
 | .agg vs=>V.onlySL vs
 | .tup vs=>V.onlySL vs
 | .rsl _ _ _ _ | .ref _ _ | .mp _=>True
 | _=>False
def V.onlySL : List V → Prop
 | []=>True
 | v :: vs=>V.onlyS v ∧ V.onlySL vs
end
theorem X1W : ∀ {vs : List V},(V.tbL vs).length = vs.length
 | []=>rfl
 | v :: vs=>by rw [V.tbL,List.length_cons,List.length_cons,X1W]
section
variable {w : World} {S B T : BS}
mutual
theorem Rep.of_tb (hT : ∀ b,S b ∨ B b → T b) : ∀ (κ : KM) (v : V) (x : Value) (us : List Nat),v.onlyS → Rep w S B κ v.tb x us → Rep w T (fun _=>False) κ v x us
 | κ,.any,x,us,_,h=>h
 | κ,.lit _,x,us,_,h=>h
 | κ,.emp,x,us,_,h=>h
 | κ,.ptr .s cs,x,us,ho,⟨b,o,u,h1,h2,h3⟩=>⟨b,o,u,h1,Mem.of_tb hT [] cs b o u ho h2,hT b h3.1,h3.2⟩
 | κ,.sl .s sz n cs,x,us,ho,⟨a,c,h1,h2,h3,h4,h5⟩=>by
  refine ⟨a,c,h1,h2,h3,by rw [X1W] at h4; exact h4, ?_⟩
  rcases h5 with ⟨h5,h6⟩ | ⟨b,o,u,e,h6,h7⟩
  ·exact .inl ⟨h5,h6.1,fun h=>by cases h⟩
  ·exact .inr ⟨b,o,u,e,Mem.of_tb hT [] cs b o u ho h6,hT b h7.1,h7.2⟩
 | κ,.agg vs,x,us,ho,⟨xs,h1,h2⟩=>⟨xs,h1,RepL.of_tb hT κ vs _ us ho h2⟩
 | κ,.tup vs,x,us,ho,⟨xs,h1,h2⟩=>⟨xs,h1,RepL.of_tb hT κ vs _ us ho h2⟩
 | κ,.ref _ _,x,us,_,h=>h
 | κ,.rsl _ _ _ _,x,us,_,h=>h
 | κ,.mp _,x,us,_,h=>h
theorem RepL.of_tb (hT : ∀ b,S b ∨ B b → T b) : ∀ (κ : KM) (vs : List V) (xs : List Value) (us : List Nat),V.onlySL vs → RepL w S B κ (V.tbL vs) xs us → RepL w T (fun _=>False) κ vs xs us
 | κ,[],xs,us,_,h=>h
 | κ,v :: vs,xs,us,ho,⟨x,xs',u1,u2,h1,h2,h3,h4⟩=>⟨x,xs',u1,u2,h1,h2,Rep.of_tb hT κ v x u1 ho.1 h3,RepL.of_tb hT κ vs xs' u2 ho.2 h4⟩
theorem Mem.of_tb (hT : ∀ b,S b ∨ B b → T b) : ∀ (κ : KM) (cs : List V) (b o : Nat) (us : List Nat),V.onlySL cs → Mem w S B κ (V.tbL cs) b o us → Mem w T (fun _=>False) κ cs b o us
 | κ,[],b,o,us,_,h=>h
 | κ,v :: vs,b,o,us,ho,⟨x,u1,u2,h1,h2,h3,h4⟩=>⟨x,u1,u2,h1,h2,Rep.of_tb hT κ v x u1 ho.1 h3,Mem.of_tb hT κ vs b (o + 1) u2 ho.2 h4⟩
end
mutual
theorem Rep.to_tb (hT : ∀ b,T b → S b ∨ B b) : ∀ (κ : KM) (v : V) (x : Value) (us : List Nat),v.onlyS → Rep w T (fun _=>False) κ v x us → Rep w S B κ v.tb x us
 | κ,.any,x,us,_,h=>h
 | κ,.lit _,x,us,_,h=>h
 | κ,.emp,x,us,_,h=>h
 | κ,.ptr .s cs,x,us,ho,⟨b,o,u,h1,h2,h3⟩=>⟨b,o,u,h1,Mem.to_tb hT [] cs b o u ho h2,hT b h3.1,h3.2⟩
 | κ,.sl .s sz n cs,x,us,ho,⟨a,c,h1,h2,h3,h4,h5⟩=>by
  refine ⟨a,c,h1,h2,h3,by rw [X1W]; exact h4, ?_⟩
  rcases h5 with ⟨h5,h6⟩ | ⟨b,o,u,e,h6,h7⟩
  ·exact .inl ⟨h5,h6.1,fun h=>by cases h⟩
  ·exact .inr ⟨b,o,u,e,Mem.to_tb hT [] cs b o u ho h6,hT b h7.1,h7.2⟩
 | κ,.agg vs,x,us,ho,⟨xs,h1,h2⟩=>⟨xs,h1,RepL.to_tb hT κ vs _ us ho h2⟩
 | κ,.tup vs,x,us,ho,⟨xs,h1,h2⟩=>⟨xs,h1,RepL.to_tb hT κ vs _ us ho h2⟩
 | κ,.ref _ _,x,us,_,h=>h
 | κ,.rsl _ _ _ _,x,us,_,h=>h
 | κ,.mp _,x,us,_,h=>h
theorem RepL.to_tb (hT : ∀ b,T b → S b ∨ B b) : ∀ (κ : KM) (vs : List V) (xs : List Value) (us : List Nat),V.onlySL vs → RepL w T (fun _=>False) κ vs xs us → RepL w S B κ (V.tbL vs) xs us
 | κ,[],xs,us,_,h=>h
 | κ,v :: vs,xs,us,ho,⟨x,xs',u1,u2,h1,h2,h3,h4⟩=>⟨x,xs',u1,u2,h1,h2,Rep.to_tb hT κ v x u1 ho.1 h3,RepL.to_tb hT κ vs xs' u2 ho.2 h4⟩
theorem Mem.to_tb (hT : ∀ b,T b → S b ∨ B b) : ∀ (κ : KM) (cs : List V) (b o : Nat) (us : List Nat),V.onlySL cs → Mem w T (fun _=>False) κ cs b o us → Mem w S B κ (V.tbL cs) b o us
 | κ,[],b,o,us,_,h=>h
 | κ,v :: vs,b,o,us,ho,⟨x,u1,u2,h1,h2,h3,h4⟩=>⟨x,u1,u2,h1,h2,Rep.to_tb hT κ v x u1 ho.1 h3,Mem.to_tb hT κ vs b (o + 1) u2 ho.2 h4⟩
end
end
theorem PC.lent {P : Program} {f : FuncId} {args : List V} {r : V} {objs : List Ob} (h : PC P f args r objs) (ha : V.onlySL args) (hr : r.onlyS) (ho : ∀ ob ∈ objs,ob.st = .own ∧ V.onlySL ob.cs) :
  PB P f (V.tbL args) r.tb (objs.map fun ob=>{ ob with cs:=V.tbL ob.cs }):=by
 refine ⟨h.1,fun w S B xs hb hrep=>?_⟩
 have hb' : ∀ b,(S b ∨ B b) ∨ False → b < w.heap.size:=fun b hx=>hb b (hx.elim id False.elim)
 refine (h.2 w (fun b=>S b ∨ B b) (fun _=>False) xs hb' (RepL.of_tb (fun _ h=>h) [] args xs [] ha hrep)).mono ?_
 rintro e w' ⟨x,rfl,hbl,κ,S',uss,h1,h2,h3,h4,h5,h6,h7,h8,h9⟩
 have hT : ∀ b,S' b → (S' b ∧ (S b ∨ w.heap.size ≤ b)) ∨ B b:=by
  intro b hs
  rcases h2 b hs with (q | q) | q
  ·exact .inl ⟨hs,.inl q⟩
  ·exact .inr q
  ·exact .inl ⟨hs,.inr q.1⟩
 refine ⟨x,rfl,hbl,κ,fun b=>S' b ∧ (S b ∨ w.heap.size ≤ b),uss,fun b hs=>⟨h1 b (.inl hs),.inl hs⟩, ?_,Rep.to_tb hT κ r x [] hr h3,by simpa using h4, ?_,by simpa using h6, ?_,h8,fun b hb=>⟨(h9 b hb).1,(h9 b hb).2.1,fun hs=>(h9 b hb).2.2 hs.1⟩⟩
 ·rintro b ⟨hs,q | q⟩
  ·exact .inl q
  ·rcases h2 b hs with (q' | q') | q'
   ·exact .inl q'
   ·have:=hb b (.inr q'); omega
   ·exact .inr q'
 ·intro i ob a st
  rw [List.getElem?_map] at a
  cases e : objs[i]? with
  | none=>rw [e] at a; simp at a
  | some ob' =>
   rw [e] at a
   simp only [Option.map_some,Option.some.injEq] at a
   exact h5 i ob' e (.inl (ho ob' (List.mem_of_getElem? e)).1)
 ·intro i ob k us a b c
  rw [List.getElem?_map] at a
  cases e : objs[i]? with
  | none=>rw [e] at a; simp at a
  | some ob' =>
   rw [e] at a
   simp only [Option.map_some,Option.some.injEq] at a
   subst a
   have q:=h7 i ob' k us e b c
   obtain ⟨st,ty,cs⟩:=ob'
   obtain ⟨rfl,ho2⟩:=ho _ (List.mem_of_getElem? e)
   rcases q with ⟨q1,q2,q3⟩ | ⟨b',arr,u,q1,q2,q3,q4⟩
   ·have q2 : cs = []:=q2
    subst q2
    exact .inl ⟨q1,rfl,q3⟩
   ·exact .inr ⟨b',arr,u,q1,q2,q3,Mem.to_tb hT κ cs b' 0 u ho2 q4⟩
theorem X5Q (z : Int) : PC PP Q1m [zV .s z] (zV .s (-z)) []:=by
 refine tx Q2M Q1e [] (by kernel_rfl) ?_
 simp -dsimp(disch:=first|exact om|fail)only[go_sem,simprocAttr,xE,xN,xC,xP,xA,xZ]
 refine callP (Q2S (-z) (!zb z) z.natAbs (Y1I z)) lL ?_
 simp -dsimp(disch:=first|exact om|fail)only[go_sem,simprocAttr,xE,xN,xC,xP,xA,xZ]
theorem Y5V (f : Fl) (hf : f ≠ .u) (x : FQ) (hx : x.good = true) : PC PP Q1z [pQ f x] (I (sgZ x.num)) []:=by
 obtain ⟨r,hr⟩:=X7Z hx
 have h1:=x.num_le
 have e1 : x.num = r.num:=Y5s hr
 rw [e1] at h1 ⊢
 rw [show pQ f x = pR f r by unfold pQ; rw [hr]]
 exact Q5R f hf r (by omega)
def byC (l : List Int) : List V:=l.map fun b=>.lit (.int .u8 b)
abbrev byV (f : Fl) (l : List Int) : V:=.sl f 1 l.length (byC l)
@[go_sem] theorem Y8w {l : List Int} : (byC l).length = l.length:=by simp [byC]
@[go_sem] theorem Z5W {l : List Int} {i : Nat} (h : OM (i < l.length)) : ((byC l).drop i)[0]? = some (.lit (.int .u8 (l.getD i 0))):=by
 have h : i < l.length:=h
 simp [byC,List.getElem?_drop,h]
theorem LeL.bys {H : List Ob} {f : Fl} : ∀ {l : List Int},LeL H f (byC l) (byC l)
 | []=>.nil
 | _ :: _=>.cons _ _ _ _ (.lit _) LeL.bys
@[go_sem] theorem Z7j {H : List Ob} {f : Fl} {n : Nat} {l : List Int} : Le H f (.sl .s 1 n (byC l)) (.sl .s 1 n (byC l)) = True:=eq_true (.sl _ _ _ _ _ _ (.inl rfl) LeL.bys)
abbrev curO (l : List Int) (i : Nat) (h : Int) : Ob:=⟨.own,X1M,[byV .s l,I i,I h]⟩
def bHash (h : Int) : Int:=IntKind.wrap .i64 (IntKind.wrap .i64 (h * 6364136223846793005) + 1442695040888963407)
def c255 (x : Int) : Int:=IntKind.wrap .i64 ((BitVec.ofInt IntKind.i64.bits x &&& BitVec.ofInt IntKind.i64.bits 255).toNat)
theorem Y3E {x : Int} : IntKind.wrap .i64 ((BitVec.ofInt IntKind.i64.bits x &&& BitVec.ofInt IntKind.i64.bits 255).toNat) = c255 x:=(rfl)
theorem Y3D (x : Int) : 0 ≤ c255 x ∧ c255 x ≤ 255:=by
 have h : (BitVec.ofInt IntKind.i64.bits x &&& BitVec.ofInt IntKind.i64.bits 255).toNat ≤ 255:=by
  rw [BitVec.toNat_and]
  exact Nat.le_trans Nat.and_le_right (by decide)
 unfold c255
 rw [w64 (by omega)]
 omega
def bRaw (h : Int) : Int:=c255 (IntKind.wrap .i64 ((BitVec.ofInt IntKind.i64.bits ((bHash h).fdiv (2 ^ 33)) ^^^ BitVec.ofInt IntKind.i64.bits ((bHash h).fdiv (2 ^ 45))).toNat))
theorem Y3I {h : Int} : c255 (IntKind.wrap .i64 ((BitVec.ofInt IntKind.i64.bits ((bHash h).fdiv (2 ^ 33)) ^^^ BitVec.ofInt IntKind.i64.bits ((bHash h).fdiv (2 ^ 45))).toNat)) = bRaw h:=(rfl)
theorem Y0E {h : Int} : IntKind.wrap .i64 (IntKind.wrap .i64 (h * 6364136223846793005) + 1442695040888963407) = bHash h:=(rfl)
def bX (l : List Int) (i : Nat) (h : Int) : Int:=if i < l.length then c255 (IntKind.wrap .i64 (bRaw h + IntKind.wrap .i64 (l.getD i 0))) else bRaw h
def bI (l : List Int) (i : Nat) : Nat:=if i < l.length then i + 1 else i
theorem bI_le {l : List Int} {i : Nat} (h : i ≤ l.length) : bI l i ≤ l.length:=by unfold bI; split <;> omega
theorem bX_le (l : List Int) (i : Nat) (h : Int) : 0 ≤ bX l i h ∧ bX l i h ≤ 255:=by
 unfold bX
 split
 ·exact Y3D _
 ·exact Y3D _
theorem Y2M (l : List Int) (i : Nat) (h : Int) (hl : l.length ≤ 1048576) (hi : i ≤ l.length) : GC PP Q5A [.ref 0 0] [curO l i h] (I (bX l i h)) [curO l (bI l i) (bHash h)]:=by
  refine txg X5x Q7U 1 [] [] [] rfl (by kernel_rfl) ?_
  unfold bX bI
  by_cases h1 : i < l.length
  · rw [if_pos h1,if_pos h1]
    simp -dsimp(disch:=first|exact om|fail)only[go_sem,↓reduceIte,Nat.reduceEqDiff,Nat.reduceAdd,Nat.reduceSub,Nat.reduceMul,Nat.reduceLT,Nat.reduceLeDiff,reduceCtorEq,xE,xN,xC,xP,xA,xZ,Int.reduceToNat,Y0E,Y3E,Y3I,exists_eq_left']
    exact RtG.nothing [some 0] lE (by decide) (by simp -dsimp(disch:=first|exact om|fail)only[go_sem,↓reduceIte,Nat.reduceEqDiff,Nat.reduceAdd,Nat.reduceSub,Nat.reduceMul,Nat.reduceLT,Nat.reduceLeDiff,reduceCtorEq,xE,xN,xC,xP,xA,xZ,Int.reduceToNat,List.map_cons,List.map_nil]) lW
  · rw [if_neg h1,if_neg h1]
    simp -dsimp(disch:=first|exact om|fail)only[go_sem,↓reduceIte,Nat.reduceEqDiff,Nat.reduceAdd,Nat.reduceSub,Nat.reduceMul,Nat.reduceLT,Nat.reduceLeDiff,reduceCtorEq,xE,xN,xC,xP,xA,xZ,Int.reduceToNat,Y0E,Y3E,Y3I]
    exact RtG.nothing [some 0] lE (by decide) (by simp -dsimp(disch:=first|exact om|fail)only[go_sem,↓reduceIte,Nat.reduceEqDiff,Nat.reduceAdd,Nat.reduceSub,Nat.reduceMul,Nat.reduceLT,Nat.reduceLeDiff,reduceCtorEq,xE,xN,xC,xP,xA,xZ,Int.reduceToNat,List.map_cons,List.map_nil]) lW
structure CS where
 i : Nat
 h : Int
def CS.nx (l : List Int) (c : CS) : CS:=⟨bI l c.i,bHash c.h⟩
def CS.to (l : List Int) (c : CS) (n : Int) : Int:=bX l c.i c.h % n
def CS.Ok (l : List Int) (c : CS) : Prop:=c.i ≤ l.length
theorem CS.Ok.nx {l : List Int} {c : CS} (h : c.Ok l) : (c.nx l).Ok l:=bI_le h
theorem CS.to_le {l : List Int} {c : CS} {n : Int} (hn : 0 < n) : 0 ≤ c.to l n ∧ c.to l n < n:=⟨Int.emod_nonneg _ (by omega),Int.emod_lt_of_pos _ hn⟩
abbrev curS (l : List Int) (c : CS) : Ob:=⟨.own,X1M,[byV .s l,I c.i,I c.h]⟩
theorem Y2L (l : List Int) (c : CS) (hl : l.length ≤ 1048576) (hc : c.Ok l) : GC PP Q5A [.ref 0 0] [curS l c] (I (bX l c.i c.h)) [curS l (c.nx l)]:=Y2M l c.i c.h hl hc
theorem Q5M (l : List Int) (c : CS) (hl : l.length ≤ 1048576) (hc : c.Ok l) (n : Int) (hn : 0 < n ∧ n ≤ 256) : GC PP Q8B [.ref 0 0,I n] [curS l c] (I (c.to l n)) [curS l (c.nx l)]:=by
 have q:=Y2L l c hl hc
 have hb:=bX_le l c.i c.h
 unfold CS.to
 generalize bX l c.i c.h = x at *
 generalize c.nx l = c' at *
 refine txg X4Q Q6W 1 [] [] [4] rfl (by kernel_rfl) ?_
 simp -dsimp(disch:=first|exact om|fail)only[go_sem,simprocAttr,xE,xN,xC,xP,xA,xZ]
 refine callG' [0] q (by decide) lL lL lE lF ?_
 simp -dsimp(disch:=first|exact om|fail)only[go_sem,simprocAttr,xE,xN,xC,xP,xA,xZ]
 exact RtG.nothing [some 0] lE (by decide) (by simp -dsimp(disch:=first|exact om|fail)only[go_sem,simprocAttr,xE,xN,xC,xP,xA,xZ,List.map_cons,List.map_nil]) lW
def nH (l : List Int) : Nat → Int
 | 0=>1975 + l.length
 | k + 1=>IntKind.wrap .i64 ((BitVec.ofInt IntKind.i64.bits (IntKind.wrap .i64 (IntKind.wrap .i64 (IntKind.wrap .i64 (nH l k * 73) + IntKind.wrap .i64 (l.getD k 0)) + 7)) &&& BitVec.ofInt IntKind.i64.bits 1073741823).toNat)
theorem nH_eq {l : List Int} {k : Nat} : IntKind.wrap .i64 ((BitVec.ofInt IntKind.i64.bits (IntKind.wrap .i64 (IntKind.wrap .i64 (IntKind.wrap .i64 (nH l k * 73) + IntKind.wrap .i64 (l.getD k 0)) + 7)) &&& BitVec.ofInt IntKind.i64.bits 1073741823).toNat) = nH l (k + 1):=(rfl)
def CS.new (l : List Int) : CS:=⟨0,nH l (min l.length 4000)⟩
theorem Y4J (l : List Int) (hl : l.length ≤ 1048576) : GC PP Q6H [byV .s l] [] (.ref 0 0) [curS l (CS.new l)]:=by
 show GC PP Q6H [byV .s l] [] (.ref 0 0) [curO l 0 (nH l (min l.length 4000))]
 refine txg X7f Q9A 0 [] [] [] rfl (by kernel_rfl) ?_
 simp -dsimp(disch:=first|exact om|fail)only[go_sem,simprocAttr,xE,xN,xC,xP,xA,xZ]
 refine loopJ (fun k : Nat=>k ≤ l.length ∧ k ≤ 4000) (fun k=>⟨[(0,byV .s l),(3,I (nH l k)),(4,I k)],[]⟩) (fun k=>l.length - k) 0 (by omega) ?_ ?_
 ·exact StI.ren [] [] lE (by decide) lW (by simp -dsimp(disch:=first|exact om|fail)only[go_sem,simprocAttr,xE,xN,xC,xP,xA,xZ]; exact rfl)
 rintro k ⟨h1,h2⟩
 by_cases h : k < l.length
 ·by_cases h3 : k < 4000
  ·have e:=@nH_eq l k
   simp -dsimp(disch:=first|exact om|fail)only[go_sem,simprocAttr,xE,xN,xC,xP,xA,xZ,exists_eq_left',e]
   exact ⟨k + 1,by omega,by omega,StI.ren [] [] lE (by decide) lW lW⟩
  ·rw [show min l.length 4000 = k by omega]
   generalize nH l k = h0 at *
   simp -dsimp(disch:=first|exact om|fail)only[go_sem,simprocAttr,xE,xN,xC,xP,xA,xZ]
   exact RtG.nothing [some 0] lE (by decide) (by simp -dsimp(disch:=first|exact om|fail)only[go_sem,simprocAttr,xE,xN,xC,xP,xA,xZ,List.map_cons,List.map_nil]) lW
 ·rw [show min l.length 4000 = k by omega]
  generalize nH l k = h0 at *
  simp -dsimp(disch:=first|exact om|fail)only[go_sem,simprocAttr,xE,xN,xC,xP,xA,xZ]
  exact RtG.nothing [some 0] lE (by decide) (by simp -dsimp(disch:=first|exact om|fail)only[go_sem,simprocAttr,xE,xN,xC,xP,xA,xZ,List.map_cons,List.map_nil]) lW
def CS.adv (l : List Int) (c : CS) : Nat → CS
 | 0=>c
 | n + 1=>(c.adv l n).nx l
theorem CS.Ok.adv {l : List Int} {c : CS} (h : c.Ok l) : ∀ {n : Nat},(c.adv l n).Ok l
 | 0=>h
 | n + 1=>(CS.Ok.adv h (n:=n)).nx
theorem CS.new_ok (l : List Int) : (CS.new l).Ok l:=Nat.zero_le _
end Go.Proofs.Ytchlpclgkhggeaa