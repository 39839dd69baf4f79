/- part of the proof -/
import Derived.Test.YtchlpclgkhggeaaTAut
namespace Go.Proofs.Ytchlpclgkhggeaa
open Go Go.RowKit
set_option maxRecDepth 100000
set_option linter.unusedVariables false
set_option linter.unusedSimpArgs false
def inB (lo hi : Int) (l : List Int) : Bool:=l.all fun n=>decide (lo ≤ n ∧ n ≤ hi)
theorem Y3N {p : Int → Bool} {l : List Int} {k : Nat} (h : k < l.length) (hl : l.all p = true) : p (l.getD k 0) = true:=by
 have:=List.all_eq_true.1 hl l[k] (List.getElem_mem h)
 simpa [h] using this
structure Prg where
 rows : Int
 cols : Int
 a : List Int
 b : List Int
 c : List Int
def pC (f : Fl) (p : Prg) : List V:=[I p.rows,I p.cols,sI f p.a,sI f p.b,sI f p.c]
abbrev pV (f : Fl) (p : Prg) : V:=.agg (pC f p)
def okP' (p : Prg) : Bool:=decide (0 ≤ p.rows ∧ p.rows ≤ 20) && (decide (0 ≤ p.cols ∧ p.cols ≤ 40) && (decide ((p.a.length : Int) = p.rows * p.cols) && (decide ((p.b.length : Int) = p.rows) && (decide ((p.c.length : Int) = p.cols) &&
 (inB (-100) 100 p.a && (inB (-100) 100 p.b && inB (-100) 100 p.c))))))
def Prg.small (p : Prg) : Prop:=p.a.length ≤ 1048576 ∧ p.b.length ≤ 1048576 ∧ p.c.length ≤ 1048576
theorem X7c (n : Int) : PC PP Q1R [I n] (Bo (!decide (-100 ≤ n ∧ n ≤ 100))) []:=by
 refine tx X0v Q3C [] (by kernel_rfl) ?_
 simp -dsimp only [go_sem,simprocAttr]
 refine ⟨fun h=>?_,fun h=>?_⟩
 ·rw [← decide_not]; congr 1; apply propext; omega
 ·have : ¬ (-100 ≤ n ∧ n ≤ 100):=by omega
  simp [this]
def ixB (p : Int → Bool) (l : List Int) : Int:=if l.any p = true then (l.findIdx p : Nat) else -1
theorem X7d {p : Int → Bool} {l : List Int} {k : Nat} (h : k < l.length) : (l.take (k + 1)).any p = ((l.take k).any p || p (l.getD k 0)):=by
 rw [List.take_succ_eq_append_getElem h,List.any_append]
 simp [h]
theorem Y4K (f : Fl) (hf : f ≠ .u) (l : List Int) (hl : l.length ≤ 1048576) (g : FuncId) (p : Int → Bool) (hg : ∀ n,PC PP g [I n] (Bo (p n)) []) :
    PC PP Q1D [sI f l,.fn (.func g) [] []] (I (ixB p l)) []:=by
  refine tx Q4J Q1u [] (by kernel_rfl) ?_
  simp -dsimp only [go_sem,↓reduceIte,Nat.reduceEqDiff,Nat.reduceAdd,Nat.reduceSub,Nat.reduceMul,Nat.reduceLT,Nat.reduceLeDiff,reduceCtorEq]
  refine loopI (fun k : Nat=>k ≤ l.length ∧ (l.take k).any p = false) (fun k=>⟨[(0,sI f l),(1,.fn (.func g) [] []),(7,I l.length),(8,I k)],[]⟩) (fun k=>l.length - k) 0 ⟨by omega,rfl⟩ ?_ ?_
  · simp -dsimp only [go_sem,↓reduceIte,Nat.reduceEqDiff,Nat.reduceAdd,Nat.reduceSub,Nat.reduceMul,Nat.reduceLT,Nat.reduceLeDiff,reduceCtorEq]; simp
  intro k ⟨hk,hp⟩
  simp -dsimp only [go_sem,↓reduceIte,Nat.reduceEqDiff,Nat.reduceAdd,Nat.reduceSub,Nat.reduceMul,Nat.reduceLT,Nat.reduceLeDiff,reduceCtorEq]
  refine ⟨fun h=>⟨by omega,h,by omega, ?_⟩,fun h=>?_⟩
  · have hk' : k < l.length:=by omega
    rw [Q0A hk']
    simp -dsimp only [go_sem,↓reduceIte,Nat.reduceEqDiff,Nat.reduceAdd,Nat.reduceSub,Nat.reduceMul,Nat.reduceLT,Nat.reduceLeDiff,reduceCtorEq]
    refine callP (hg _) (by repeat' constructor) ?_
    simp -dsimp only [go_sem,↓reduceIte,Nat.reduceEqDiff,Nat.reduceAdd,Nat.reduceSub,Nat.reduceMul,Nat.reduceLT,Nat.reduceLeDiff,reduceCtorEq]
    refine ⟨fun h=>?_,fun h=>⟨k + 1,⟨by omega, ?_⟩,by omega, ?_⟩⟩
    · have ha : l.any p = true:=by
        refine List.any_eq_true.2 ⟨l[k],List.getElem_mem hk', ?_⟩
        simpa [hk'] using h
      unfold ixB
      rw [if_pos ha]
      have : l.findIdx p = k:=by
        rw [List.findIdx_eq hk']
        refine ⟨by simpa [hk'] using h,fun j hj=>?_⟩
        have hj' : j < (l.take k).length:=by rw [List.length_take]; omega
        have:=List.any_eq_false.1 hp (l.take k)[j] (List.getElem_mem hj')
        simpa using this
      rw [this]
    · rw [X7d hk',hp,h]; rfl
    · rw [w64 (by omega)]; omega
  · have : k = l.length:=by omega
    subst this
    rw [List.take_length] at hp
    unfold ixB
    rw [hp]; rfl
theorem X4J (f : Fl) (hf : f ≠ .u) (l : List Int) (hl : l.length ≤ 1048576) (g : FuncId) (p : Int → Bool) (hg : ∀ n,PC PP g [I n] (Bo (p n)) []) :
  PC PP Q0E [sI f l,.fn (.func g) [] []] (Bo (l.any p)) []:=by
 refine tx Q3q Q0Z [] (by kernel_rfl) ?_
 simp -dsimp only [go_sem,simprocAttr]
 refine callP (Y4K f hf l hl g p hg) ?_ ?_
 ·simp -dsimp only [go_sem,simprocAttr,hf]
 simp -dsimp only [go_sem,simprocAttr]
 unfold ixB
 cases l.any p with
 | true=>simp
 | false=>simp
theorem Q8t (f : Fl) (hf : f ≠ .u) (l : List Int) (hl : l.length ≤ 1048576) : PC PP Q6j [sI f l] (Bo (inB (-100) 100 l)) []:=by
 refine tx X2A Q5a [] (by kernel_rfl) ?_
 simp -dsimp only [go_sem,simprocAttr]
 refine callP (X4J f hf l hl Q1R _ X7c) ?_ ?_
 ·simp -dsimp only [go_sem,simprocAttr,hf]
 simp -dsimp only [go_sem,simprocAttr]
 unfold inB
 rw [List.any_eq_not_all_not]
 simp
theorem Q0B (f : Fl) (hf : f ≠ .u) (p : Prg) (hp : p.small) : PC PP Q7p [pV f p] (Bo (okP' p)) []:=by
 refine tx X3w Q5Q [] (by kernel_rfl) ?_
 simp only [pV,pC]
 obtain ⟨r,c,la,lb,lc⟩:=p
 obtain ⟨ha,hb,hc⟩:=hp
 simp only at ha hb hc
 simp -dsimp only [go_sem,simprocAttr,hf]
 refine ⟨fun h1=>⟨fun h2=>⟨fun h3=>⟨fun h4=>?_,fun h4=>by simp [okP',h4]⟩,fun h3=>by simp [okP',h3]⟩,fun h2=>by simp [okP',h2]⟩,fun h1=>by simp [okP',h1]⟩
 have hm : 0 ≤ r * c ∧ r * c ≤ 800:=⟨Int.mul_nonneg h1 h3,Int.le_trans (Int.mul_le_mul h2 h4 h3 (by omega)) (by omega)⟩
 rw [w64 (n:=r * c) (by omega)]
 refine ⟨fun h5=>⟨fun h6=>⟨fun h7=>?_,fun h7=>by simp [okP',h7]⟩,fun h6=>by simp [okP',h6]⟩,fun h5=>by simp [okP',h5]⟩
 refine callP (Q8t f hf la ha) (by simp -dsimp only [go_sem,simprocAttr,hf]) ?_
 simp -dsimp only [go_sem,simprocAttr,hf]
 refine ⟨fun h8=>?_,fun h8=>by simp [okP',h8]⟩
 refine callP (Q8t f hf lb hb) (by simp -dsimp only [go_sem,simprocAttr,hf]) ?_
 simp -dsimp only [go_sem,simprocAttr,hf]
 refine ⟨fun h9=>?_,fun h9=>by simp [okP',h9]⟩
 refine callP (Q8t f hf lc hc) (by simp -dsimp only [go_sem,simprocAttr,hf]) ?_
 simp -dsimp only [go_sem,simprocAttr,hf]
 simp [okP',h1,h2,h3,h4,h5,h6,h7,h8,h9]
theorem Y2Y {α : Type} {l : List α} {k : Nat} {z : α} (h : k < l.length) : (l.take k ++ List.replicate (l.length - k) z).set k (l.getD k z) = l.take (k + 1) ++ List.replicate (l.length - (k + 1)) z:=by
 have e : l.length - k = (l.length - (k + 1)) + 1:=by omega
 rw [e,List.replicate_succ,List.set_append_right _ _ (by rw [List.length_take]; omega),List.length_take,Nat.min_eq_left (by omega),Nat.sub_self,List.set_cons_zero,List.take_succ_eq_append_getElem h,List.append_assoc,List.singleton_append]
 simp [h]
def marks (k : Int) (n : Nat) : List Int:=(List.range n).map fun i=>k + (i : Nat)
@[simp,go_sem] theorem Y5u {k : Int} {n : Nat} : (marks k n).length = n:=by simp [marks]
@[simp] theorem Y8c {k : Int} : marks k 0 = []:=rfl
abbrev pO (p : Prg) : V:=.agg [I p.rows,I p.cols,.rsl 0 1 0 p.a.length,.rsl 1 1 0 p.b.length,.rsl 2 1 0 p.c.length]
abbrev pH (p : Prg) : List Ob:=[⟨.own,T_int,iC p.a⟩,⟨.own,T_int,iC p.b⟩,⟨.own,T_int,iC p.c⟩]
def Prg.len (p : Prg) : Nat:=p.a.length + p.b.length + p.c.length
structure RD where
 neg : Bool
 mag : List Int
 den : List Int
deriving DecidableEq
def RD.zero : RD:=⟨false,[],[]⟩
def RD.sz (r : RD) : Nat:=r.mag.length + r.den.length
abbrev bC (f : Fl) (b : Bool) (m : List Int) : List V:=[Bo b,sI f m]
def rdC (f : Fl) (r : RD) : List V:=[Bo r.neg,sI f r.mag,sI f r.den]
abbrev rV (f : Fl) (r : RD) : V:=.agg (rdC f r)
def rsC (f : Fl) (l : List RD) : List V:=l.flatMap (rdC f)
abbrev sR (f : Fl) (l : List RD) : V:=.sl f 3 l.length (rsC f l)
@[go_sem] theorem Z6P {f : Fl} {r : RD} : rdC f r = [Bo r.neg,sI f r.mag,sI f r.den]:=rfl
@[go_sem] theorem Q0W {f : Fl} {l : List RD} : (rsC f l).length = l.length * 3:=by
 unfold rsC
 induction l with
 | nil=>rfl
 | cons r l ih=>rw [List.flatMap_cons,List.length_append,ih,List.length_cons]; simp [rdC]; omega
theorem Y4o {f : Fl} {r : RD} {l : List RD} : rsC f (r :: l) = rdC f r ++ rsC f l:=rfl
theorem X2d {f : Fl} {l m : List RD} : rsC f (l ++ m) = rsC f l ++ rsC f m:=by simp [rsC]
theorem X9Q {f : Fl} : ∀ {l : List RD} {i : Nat},(rsC f l).drop (i * 3) = rsC f (l.drop i)
 | l,0=>by simp
 | [],i + 1=>by simp [rsC]
 | r :: l,i + 1=>by
  rw [Y4o,List.drop_succ_cons,← X9Q (l:=l) (i:=i),show (i + 1) * 3 = i * 3 + 1 + 1 + 1 by omega]
  rfl
theorem rs_at {f : Fl} {l : List RD} {i : Nat} (h : i < l.length) : (rsC f l).drop (i * 3) = Bo (l[i]).neg :: sI f (l[i]).mag :: sI f (l[i]).den :: rsC f (l.drop (i + 1)):=by
 rw [X9Q,List.drop_eq_getElem_cons h]; rfl
theorem Y6c {f : Fl} {l : List RD} {i : Nat} (h : i < l.length) : ((rsC f l).drop (i * 3)).take 3 = rdC f l[i]:=by
 rw [rs_at h]; rfl
theorem Y6d {f : Fl} {l : List RD} {c : V} (h : c ∈ rsC f l) : ∃ r ∈ l,c ∈ rdC f r:=by
 unfold rsC at h
 obtain ⟨r,h1,h2⟩:=List.mem_flatMap.1 h
 exact ⟨r,h1,h2⟩
theorem X8I {f : Fl} {p : V → Prop} (h1 : ∀ b,p (Bo b)) (h2 : ∀ l,p (sI f l)) {l : List RD} : ∀ c ∈ rsC f l,p c:=by
 intro c hc
 obtain ⟨r,_,h⟩:=Y6d hc
 unfold rdC at h
 simp only [List.mem_cons,List.not_mem_nil,or_false] at h
 rcases h with rfl | rfl | rfl
 ·exact h1 _
 ·exact h2 _
 ·exact h2 _
@[go_sem] theorem Y4P {f : Fl} {l : List RD} : (∀ c ∈ rsC f l,c.flat) = True:=by
 apply propext; exact ⟨fun _=>trivial,fun _=>X8I (fun _=>trivial) (fun _=>trivial)⟩
theorem Y3B {l : List RD} : ∀ c ∈ rsC .s l,c.cl:=X8I (fun _=>trivial) (fun _=>trivial)
def szS : List RD → Nat
 | []=>0
 | r :: l=>r.sz + szS l
def szL (l : List RD) : Nat:=l.length + szS l
def RD.fit (r : RD) : Prop:=r.mag.length ≤ 9223372036854775807 ∧ r.den.length ≤ 9223372036854775807
def fitL (l : List RD) : Prop:=l.length ≤ 9223372036854775807 ∧ ∀ r ∈ l,r.fit
theorem X6C {H : List Ob} {f g g' : Fl} (h : ∀ m,Le H f (sI g m) (sI g' m)) : ∀ {l : List RD},LeL H f (rsC g l) (rsC g' l)
 | []=>.nil
 | r :: l=>.cons _ _ _ _ (.lit _) (.cons _ _ _ _ (h _) (.cons _ _ _ _ (h _) (X6C h)))
theorem le_rs {H : List Ob} {f g : Fl} (hf : f = .b ∨ g = .s) (hg : g ≠ .u) {l : List RD} {n : Nat} : Le H f (.sl g 3 n (rsC g l)) (.sl g 3 n (rsC g l)):=by
 refine .sl _ _ _ _ _ _ ?_ (X6C fun m=>Le.slI hf hg)
 cases g
 ·exact .inl rfl
 ·rcases hf with rfl | h
  ·exact ⟨rfl,rfl⟩
  ·cases h
 ·exact absurd rfl hg
@[go_sem] theorem Z7e {H : List Ob} {f : Fl} {l : List RD} {n : Nat} : Le H f (.sl .s 3 n (rsC .s l)) (.sl .s 3 n (rsC .s l)) = True:=by
 apply propext; exact ⟨fun _=>trivial,fun _=>le_rs (.inr rfl) (by simp)⟩
abbrev rO (r : RD) : V:=.agg [Bo r.neg,.rsl 0 1 0 r.mag.length,.rsl 1 1 0 r.den.length]
abbrev rH (r : RD) : List Ob:=[⟨.own,T_int,iC r.mag⟩,⟨.own,T_int,iC r.den⟩]
def RD.small (r : RD) : Prop:=r.mag.length ≤ 1048576 ∧ r.den.length ≤ 1048576
abbrev zR : List V:=[Bo false,.emp,.emp]
def zsR (n : Nat) : List V:=(List.replicate n zR).flatten
@[go_sem] theorem Y0F {n : Nat} : (zsR n).length = n * 3:=by
 induction n with
 | zero=>rfl
 | succ n ih=>rw [zsR,List.replicate_succ,List.flatten_cons,List.length_append]; simp only [zsR] at ih; rw [ih]; simp; omega
theorem Y3S {n : Nat} : zsR (n + 1) = zR ++ zsR n:=by rw [zsR,List.replicate_succ,List.flatten_cons]; rfl
theorem Y8K {n : Nat} : (List.replicate n [Bo false,.emp,.emp]).flatten = zsR n:=rfl
theorem Y1n {n : Nat} {c : V} (h : c ∈ zsR n) : c = Bo false ∨ c = .emp:=by
 unfold zsR at h
 obtain ⟨l,h1,h2⟩:=List.mem_flatten.1 h
 obtain ⟨_,rfl⟩:=List.mem_replicate.1 h1
 simp at h2
 rcases h2 with h2 | h2
 ·exact .inl h2
 ·exact .inr h2
theorem Y0s {n : Nat} : ∀ c ∈ zsR n,c.flat:=fun c h=>by rcases Y1n h with rfl | rfl <;> trivial
theorem Y5t {n : Nat} : ∀ c ∈ zsR n,c.nb:=fun c h=>by rcases Y1n h with rfl | rfl <;> trivial
def fillR (f : Fl) (l : List RD) (i : Nat) : List V:=rsC f (l.take i) ++ zsR (l.length - i)
@[go_sem] theorem Y5H {f : Fl} {l : List RD} {i : Nat} : (fillR f l i).length = min i l.length * 3 + (l.length - i) * 3:=by
 unfold fillR; rw [List.length_append,Q0W,Y0F,List.length_take]
theorem Y1a {f : Fl} {l : List RD} {i : Nat} (h : i < l.length) : (fillR f l i).take (i * 3) = rsC f (l.take i):=by
 unfold fillR
 rw [List.take_append_of_le_length (by rw [Q0W,List.length_take]; omega),List.take_of_length_le (by rw [Q0W,List.length_take]; omega)]
theorem Y1d {f : Fl} {l : List RD} {i : Nat} (h : i < l.length) : (fillR f l i).drop (i * 3 + 3) = zsR (l.length - (i + 1)):=by
 unfold fillR
 rw [List.drop_append,List.drop_of_length_le (by rw [Q0W,List.length_take]; omega),List.nil_append,Q0W,List.length_take,Nat.min_eq_left (by omega),show i * 3 + 3 - i * 3 = 3 by omega,show l.length - i = (l.length - (i + 1)) + 1 by omega,Y3S]
 rfl
theorem Y0Z {f : Fl} {l : List RD} : fillR f l 0 = zsR l.length:=by simp [fillR,rsC]
theorem Y1c {f : Fl} {l : List RD} : fillR f l l.length = rsC f l:=by simp [fillR,zsR]
theorem Y1b {f : Fl} {l : List RD} {i : Nat} (h : i < l.length) : rsC f (l.take i) ++ rdC f l[i] ++ zsR (l.length - (i + 1)) = fillR f l (i + 1):=by
 unfold fillR
 rw [List.take_succ_eq_append_getElem h,X2d]
 simp [rsC]
def smallL (l : List RD) : Prop:=l.length ≤ 1048576 ∧ ∀ r ∈ l,r.small
theorem Y9H {H : List Ob} {js : List (Option Nat)} {bk : Bool} {r : RD} {k1 k2 : Nat} {t1 t2 : TypeId} (h1 : H[k1]? = some ⟨.own,t1,iC r.mag⟩) (h2 : H[k2]? = some ⟨.own,t2,iC r.den⟩) :
  RnL H js bk [Bo r.neg,.rsl k1 1 0 r.mag.length,.rsl k2 1 0 r.den.length] (rdC .u r) [k1,k2]:=by
 refine .cons _ _ _ _ _ _ [] [k1,k2] (.same _ _ _ trivial (fun _=>trivial)) (.cons _ _ _ _ _ _ [k1] [k2] ?_ (.cons _ _ _ _ _ _ [k2] [] ?_ (.nil _ _)))
 ·exact .cl _ _ _ _ _ _ _ [] h1 rfl (by simp [Q0P]) (by simp only [Nat.mul_one]; rw [List.take_of_length_le (by simp [Q0P])]; exact RnL.lits)
 ·exact .cl _ _ _ _ _ _ _ [] h2 rfl (by simp [Q0P]) (by simp only [Nat.mul_one]; rw [List.take_of_length_le (by simp [Q0P])]; exact RnL.lits)
theorem X6x {H : List Ob} {js : List (Option Nat)} {bk : Bool} {f : Fl} (hf : bk = false → f ≠ .b) {l : List RD} : RnL H js bk (rsC f l) (rsC f l) [] :=
 RnL.same (by simp only [Y4P]) (fun e=>X8I (fun _=>trivial) (fun _=>by have:=hf e; cases f <;> simp_all [V.nb]))
theorem RD.getD {l : List RD} {i : Nat} (h : i < l.length) : l.getD i RD.zero = l[i]:=by simp [h]
structure QD where
 code : Int
 x : List RD
 value : RD
deriving DecidableEq
def reC (f : Fl) (q : QD) : List V:=[I q.code,sR f q.x,Bo q.value.neg,sI f q.value.mag,sI f q.value.den]
abbrev reV (f : Fl) (q : QD) : V:=.agg (reC f q)
def QD.sz (q : QD) : Nat:=szL q.x + q.value.sz
def QD.fit (q : QD) : Prop:=fitL q.x ∧ q.value.fit
def QD.small (q : QD) : Prop:=smallL q.x ∧ q.value.small
theorem RD.small.fit {r : RD} (h : r.small) : r.fit:=⟨by have:=h.1; omega,by have:=h.2; omega⟩
theorem smallL.fit {l : List RD} (h : smallL l) : fitL l:=⟨by have:=h.1; omega,fun r hr=>(h.2 r hr).fit⟩
end Go.Proofs.Ytchlpclgkhggeaa