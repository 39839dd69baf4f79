/- part of the proof -/
import Derived.Test.YtchlpclgkhggeaaVAut
namespace Go.Proofs.Ytchlpclgkhggeaa
open Go Go.RowKit
set_option maxRecDepth 100000
set_option linter.unusedVariables false
set_option linter.unusedSimpArgs false
def inB (lo hi : Int) (l : List Int) : Bool:=l.all fun n=>decide (lo ≤ n ∧ n ≤ hi)
structure Prg where
 rows : Int
 cols : Int
 a : List Int
 b : List Int
 c : List Int
def pC (f : Fl) (p : Prg) : List V:=[I p.rows,I p.cols,sI f p.a,sI f p.b,sI f p.c]
abbrev pV (f : Fl) (p : Prg) : V:=.agg (pC f p)
def okP' (p : Prg) : Bool:=decide (0 ≤ p.rows ∧ p.rows ≤ 20) && (decide (0 ≤ p.cols ∧ p.cols ≤ 40) && (decide ((p.a.length : Int) = p.rows * p.cols) && (decide ((p.b.length : Int) = p.rows) && (decide ((p.c.length : Int) = p.cols) &&
 (inB (-100) 100 p.a && (inB (-100) 100 p.b && inB (-100) 100 p.c))))))
def Prg.small (p : Prg) : Prop:=p.a.length ≤ 1048576 ∧ p.b.length ≤ 1048576 ∧ p.c.length ≤ 1048576
theorem X2h (n : Int) : PC PP Q1x [I n] (Bo (!decide (-100 ≤ n ∧ n ≤ 100))) []:=by
 refine tx Q7t Q2N [] (by kernel_rfl) ?_
 simp -dsimp only [go_sem,simprocAttr]
 refine ⟨fun h=>?_,fun h=>?_⟩
 ·rw [← decide_not]; congr 1; apply propext; omega
 ·have : ¬ (-100 ≤ n ∧ n ≤ 100):=by omega
  simp [this]
def ixB (p : Int → Bool) (l : List Int) : Int:=if l.any p = true then (l.findIdx p : Nat) else -1
theorem X2i {p : Int → Bool} {l : List Int} {k : Nat} (h : k < l.length) : (l.take (k + 1)).any p = ((l.take k).any p || p (l.getD k 0)):=by
 rw [List.take_succ_eq_append_getElem h,List.any_append]
 simp [h]
theorem X8H (f : Fl) (hf : f ≠ .u) (l : List Int) (hl : l.length ≤ 1048576) (g : FuncId) (p : Int → Bool) (hg : ∀ n,PC PP g [I n] (Bo (p n)) []) :
    PC PP Q1n [sI f l,.fn (.func g) [] []] (I (ixB p l)) []:=by
  refine tx Q3O Q1g [] (by kernel_rfl) ?_
  simp -dsimp only [go_sem,↓reduceIte,Nat.reduceEqDiff,Nat.reduceAdd,Nat.reduceSub,Nat.reduceMul,Nat.reduceLT,Nat.reduceLeDiff,reduceCtorEq]
  refine loopI (fun k : Nat=>k ≤ l.length ∧ (l.take k).any p = false) (fun k=>⟨[(0,sI f l),(1,.fn (.func g) [] []),(7,I l.length),(8,I k)],[]⟩) (fun k=>l.length - k) 0 ⟨by omega,rfl⟩ ?_ ?_
  · simp -dsimp only [go_sem,↓reduceIte,Nat.reduceEqDiff,Nat.reduceAdd,Nat.reduceSub,Nat.reduceMul,Nat.reduceLT,Nat.reduceLeDiff,reduceCtorEq]; simp
  intro k ⟨hk,hp⟩
  simp -dsimp only [go_sem,↓reduceIte,Nat.reduceEqDiff,Nat.reduceAdd,Nat.reduceSub,Nat.reduceMul,Nat.reduceLT,Nat.reduceLeDiff,reduceCtorEq]
  refine ⟨fun h=>⟨by omega,h,by omega, ?_⟩,fun h=>?_⟩
  · have hk' : k < l.length:=by omega
    rw [Q0v hk']
    simp -dsimp only [go_sem,↓reduceIte,Nat.reduceEqDiff,Nat.reduceAdd,Nat.reduceSub,Nat.reduceMul,Nat.reduceLT,Nat.reduceLeDiff,reduceCtorEq]
    refine callP (hg _) (by repeat' constructor) ?_
    simp -dsimp only [go_sem,↓reduceIte,Nat.reduceEqDiff,Nat.reduceAdd,Nat.reduceSub,Nat.reduceMul,Nat.reduceLT,Nat.reduceLeDiff,reduceCtorEq]
    refine ⟨fun h=>?_,fun h=>⟨k + 1,⟨by omega, ?_⟩,by omega, ?_⟩⟩
    · have ha : l.any p = true:=by
        refine List.any_eq_true.2 ⟨l[k],List.getElem_mem hk', ?_⟩
        simpa [hk'] using h
      unfold ixB
      rw [if_pos ha]
      have : l.findIdx p = k:=by
        rw [List.findIdx_eq hk']
        refine ⟨by simpa [hk'] using h,fun j hj=>?_⟩
        have hj' : j < (l.take k).length:=by rw [List.length_take]; omega
        have:=List.any_eq_false.1 hp (l.take k)[j] (List.getElem_mem hj')
        simpa using this
      rw [this]
    · rw [X2i hk',hp,h]; rfl
    · rw [w64 (by omega)]; omega
  · have : k = l.length:=by omega
    subst this
    rw [List.take_length] at hp
    unfold ixB
    rw [hp]; rfl
theorem X0x (f : Fl) (hf : f ≠ .u) (l : List Int) (hl : l.length ≤ 1048576) (g : FuncId) (p : Int → Bool) (hg : ∀ n,PC PP g [I n] (Bo (p n)) []) :
  PC PP Q0x [sI f l,.fn (.func g) [] []] (Bo (l.any p)) []:=by
 refine tx Q2C Q0N [] (by kernel_rfl) ?_
 simp -dsimp only [go_sem,simprocAttr]
 refine callP (X8H f hf l hl g p hg) ?_ ?_
 ·simp -dsimp only [go_sem,simprocAttr,hf]
 simp -dsimp only [go_sem,simprocAttr]
 unfold ixB
 cases l.any p with
 | true=>simp
 | false=>simp
theorem Q6c (f : Fl) (hf : f ≠ .u) (l : List Int) (hl : l.length ≤ 1048576) : PC PP Q4F [sI f l] (Bo (inB (-100) 100 l)) []:=by
 refine tx Q8U Q3U [] (by kernel_rfl) ?_
 simp -dsimp only [go_sem,simprocAttr]
 refine callP (X0x f hf l hl Q1x _ X2h) ?_ ?_
 ·simp -dsimp only [go_sem,simprocAttr,hf]
 simp -dsimp only [go_sem,simprocAttr]
 unfold inB
 rw [List.any_eq_not_all_not]
 simp
theorem Q5e (f : Fl) (hf : f ≠ .u) (p : Prg) (hp : p.small) : PC PP Q5k [pV f p] (Bo (okP' p)) []:=by
 refine tx Q9C Q4u [] (by kernel_rfl) ?_
 simp only [pV,pC]
 obtain ⟨r,c,la,lb,lc⟩:=p
 obtain ⟨ha,hb,hc⟩:=hp
 simp only at ha hb hc
 simp -dsimp only [go_sem,simprocAttr,hf]
 refine ⟨fun h1=>⟨fun h2=>⟨fun h3=>⟨fun h4=>?_,fun h4=>by simp [okP',h4]⟩,fun h3=>by simp [okP',h3]⟩,fun h2=>by simp [okP',h2]⟩,fun h1=>by simp [okP',h1]⟩
 have hm : 0 ≤ r * c ∧ r * c ≤ 800:=⟨Int.mul_nonneg h1 h3,Int.le_trans (Int.mul_le_mul h2 h4 h3 (by omega)) (by omega)⟩
 rw [w64 (n:=r * c) (by omega)]
 refine ⟨fun h5=>⟨fun h6=>⟨fun h7=>?_,fun h7=>by simp [okP',h7]⟩,fun h6=>by simp [okP',h6]⟩,fun h5=>by simp [okP',h5]⟩
 refine callP (Q6c f hf la ha) (by simp -dsimp only [go_sem,simprocAttr,hf]) ?_
 simp -dsimp only [go_sem,simprocAttr,hf]
 refine ⟨fun h8=>?_,fun h8=>by simp [okP',h8]⟩
 refine callP (Q6c f hf lb hb) (by simp -dsimp only [go_sem,simprocAttr,hf]) ?_
 simp -dsimp only [go_sem,simprocAttr,hf]
 refine ⟨fun h9=>?_,fun h9=>by simp [okP',h9]⟩
 refine callP (Q6c f hf lc hc) (by simp -dsimp only [go_sem,simprocAttr,hf]) ?_
 simp -dsimp only [go_sem,simprocAttr,hf]
 simp [okP',h1,h2,h3,h4,h5,h6,h7,h8,h9]
theorem X7j {α : Type} {l : List α} {k : Nat} {z : α} (h : k < l.length) : (l.take k ++ List.replicate (l.length - k) z).set k (l.getD k z) = l.take (k + 1) ++ List.replicate (l.length - (k + 1)) z:=by
 have e : l.length - k = (l.length - (k + 1)) + 1:=by omega
 rw [e,List.replicate_succ,List.set_append_right _ _ (by rw [List.length_take]; omega),List.length_take,Nat.min_eq_left (by omega),Nat.sub_self,List.set_cons_zero,List.take_succ_eq_append_getElem h,List.append_assoc,List.singleton_append]
 simp [h]
theorem X2v {l m : List Int} {k : Nat} (hl : k < l.length) (hm : k < m.length) (h : l.take k = m.take k) (he : l.getD k 0 = m.getD k 0) : l.take (k + 1) = m.take (k + 1):=by
 rw [List.take_succ_eq_append_getElem hl,List.take_succ_eq_append_getElem hm,h]
 simp [hl,hm] at he
 rw [he]
def marks (k : Int) (n : Nat) : List Int:=(List.range n).map fun i=>k + (i : Nat)
@[simp,go_sem] theorem X9f {k : Int} {n : Nat} : (marks k n).length = n:=by simp [marks]
@[simp] theorem Y1G {k : Int} : marks k 0 = []:=rfl
abbrev pO (p : Prg) : V:=.agg [I p.rows,I p.cols,.rsl 0 1 0 p.a.length,.rsl 1 1 0 p.b.length,.rsl 2 1 0 p.c.length]
abbrev pH (p : Prg) : List Ob:=[⟨.own,T_int,iC p.a⟩,⟨.own,T_int,iC p.b⟩,⟨.own,T_int,iC p.c⟩]
def Prg.len (p : Prg) : Nat:=p.a.length + p.b.length + p.c.length
structure RD where
 neg : Bool
 mag : List Int
 den : List Int
deriving DecidableEq
def RD.zero : RD:=⟨false,[],[]⟩
def RD.sz (r : RD) : Nat:=r.mag.length + r.den.length
abbrev bC (f : Fl) (b : Bool) (m : List Int) : List V:=[Bo b,sI f m]
def rdC (f : Fl) (r : RD) : List V:=[Bo r.neg,sI f r.mag,sI f r.den]
abbrev rV (f : Fl) (r : RD) : V:=.agg (rdC f r)
def rsC (f : Fl) (l : List RD) : List V:=l.flatMap (rdC f)
abbrev sR (f : Fl) (l : List RD) : V:=.sl f 3 l.length (rsC f l)
@[go_sem] theorem Z0e {f : Fl} {r : RD} : rdC f r = [Bo r.neg,sI f r.mag,sI f r.den]:=rfl
@[go_sem] theorem Q8D {f : Fl} {l : List RD} : (rsC f l).length = l.length * 3:=by
 unfold rsC
 induction l with
 | nil=>rfl
 | cons r l ih=>rw [List.flatMap_cons,List.length_append,ih,List.length_cons]; simp [rdC]; omega
theorem X8s {f : Fl} {r : RD} {l : List RD} : rsC f (r :: l) = rdC f r ++ rsC f l:=rfl
theorem X5l {f : Fl} {l m : List RD} : rsC f (l ++ m) = rsC f l ++ rsC f m:=by simp [rsC]
theorem X4w {f : Fl} : ∀ {l : List RD} {i : Nat},(rsC f l).drop (i * 3) = rsC f (l.drop i)
 | l,0=>by simp
 | [],i + 1=>by simp [rsC]
 | r :: l,i + 1=>by
  rw [X8s,List.drop_succ_cons,← X4w (l:=l) (i:=i),show (i + 1) * 3 = i * 3 + 1 + 1 + 1 by omega]
  rfl
theorem rs_at {f : Fl} {l : List RD} {i : Nat} (h : i < l.length) : (rsC f l).drop (i * 3) = Bo (l[i]).neg :: sI f (l[i]).mag :: sI f (l[i]).den :: rsC f (l.drop (i + 1)):=by
 rw [X4w,List.drop_eq_getElem_cons h]; rfl
theorem X6d {f : Fl} {l : List RD} {i : Nat} (h : i < l.length) : ((rsC f l).drop (i * 3)).take 3 = rdC f l[i]:=by
 rw [rs_at h]; rfl
theorem X9N {f : Fl} {l : List RD} {c : V} (h : c ∈ rsC f l) : ∃ r ∈ l,c ∈ rdC f r:=by
 unfold rsC at h
 obtain ⟨r,h1,h2⟩:=List.mem_flatMap.1 h
 exact ⟨r,h1,h2⟩
theorem X3B {f : Fl} {p : V → Prop} (h1 : ∀ b,p (Bo b)) (h2 : ∀ l,p (sI f l)) {l : List RD} : ∀ c ∈ rsC f l,p c:=by
 intro c hc
 obtain ⟨r,_,h⟩:=X9N hc
 unfold rdC at h
 simp only [List.mem_cons,List.not_mem_nil,or_false] at h
 rcases h with rfl | rfl | rfl
 ·exact h1 _
 ·exact h2 _
 ·exact h2 _
@[go_sem] theorem X8L {f : Fl} {l : List RD} : (∀ c ∈ rsC f l,c.flat) = True:=by
 apply propext; exact ⟨fun _=>trivial,fun _=>X3B (fun _=>trivial) (fun _=>trivial)⟩
theorem X9x {l : List RD} : ∀ c ∈ rsC .s l,c.cl:=X3B (fun _=>trivial) (fun _=>trivial)
def szS : List RD → Nat
 | []=>0
 | r :: l=>r.sz + szS l
def szL (l : List RD) : Nat:=l.length + szS l
def RD.fit (r : RD) : Prop:=r.mag.length ≤ 9223372036854775807 ∧ r.den.length ≤ 9223372036854775807
def fitL (l : List RD) : Prop:=l.length ≤ 9223372036854775807 ∧ ∀ r ∈ l,r.fit
theorem X3N {H : List Ob} {f g g' : Fl} (h : ∀ m,Le H f (sI g m) (sI g' m)) : ∀ {l : List RD},LeL H f (rsC g l) (rsC g' l)
 | []=>.nil
 | r :: l=>.cons _ _ _ _ (.lit _) (.cons _ _ _ _ (h _) (.cons _ _ _ _ (h _) (X3N h)))
theorem le_rs {H : List Ob} {f g : Fl} (hf : f = .b ∨ g = .s) (hg : g ≠ .u) {l : List RD} {n : Nat} : Le H f (.sl g 3 n (rsC g l)) (.sl g 3 n (rsC g l)):=by
 refine .sl _ _ _ _ _ _ ?_ (X3N fun m=>Le.slI hf hg)
 cases g
 ·exact .inl rfl
 ·rcases hf with rfl | h
  ·exact ⟨rfl,rfl⟩
  ·cases h
 ·exact absurd rfl hg
@[go_sem] theorem Z0s {H : List Ob} {f : Fl} {l : List RD} {n : Nat} : Le H f (.sl .s 3 n (rsC .s l)) (.sl .s 3 n (rsC .s l)) = True:=by
 apply propext; exact ⟨fun _=>trivial,fun _=>le_rs (.inr rfl) (by simp)⟩
@[go_sem] theorem Z0t {H : List Ob} {g : Fl} (hg : g ≠ .u) {l : List RD} {n : Nat} : Le H .b (.sl g 3 n (rsC g l)) (.sl g 3 n (rsC g l)) = True:=by
 apply propext; exact ⟨fun _=>trivial,fun _=>le_rs (.inl rfl) hg⟩
abbrev rO (r : RD) : V:=.agg [Bo r.neg,.rsl 0 1 0 r.mag.length,.rsl 1 1 0 r.den.length]
abbrev rH (r : RD) : List Ob:=[⟨.own,T_int,iC r.mag⟩,⟨.own,T_int,iC r.den⟩]
def RD.small (r : RD) : Prop:=r.mag.length ≤ 1048576 ∧ r.den.length ≤ 1048576
def smallL (l : List RD) : Prop:=l.length ≤ 1048576 ∧ ∀ r ∈ l,r.small
theorem X9R {H : List Ob} {js : List (Option Nat)} {bk : Bool} {f : Fl} (hf : bk = false → f ≠ .b) {l : List RD} : RnL H js bk (rsC f l) (rsC f l) [] :=
 RnL.same (by simp only [X8L]) (fun e=>X3B (fun _=>trivial) (fun _=>by have:=hf e; cases f <;> simp_all [V.nb]))
theorem X4v (f g : Fl) (hf : f ≠ .u) (hg : g ≠ .u) (l m : List Int) (hl : l.length ≤ 9223372036854775807) (hm : m.length ≤ 9223372036854775807) : PC PP Q2j [sI f l,sI g m] (Bo (decide (l = m))) []:=by
  refine tx Q5o Q1S [] (by kernel_rfl) ?_
  simp -dsimp only [go_sem,↓reduceIte,Nat.reduceEqDiff,Nat.reduceAdd,Nat.reduceSub,Nat.reduceMul,Nat.reduceLT,Nat.reduceLeDiff,reduceCtorEq,hf]
  refine ⟨fun h=>?_,fun h=>?_⟩
  · have : l ≠ m:=by rintro rfl; exact h rfl
    simp [this]
  have hlm : l.length = m.length:=by omega
  refine loopI (fun k : Nat=>k ≤ l.length ∧ l.take k = m.take k) (fun k=>⟨[(0,sI f l),(1,sI g m),(12,I l.length),(13,I k)],[]⟩) (fun k=>l.length - k) 0 ⟨by omega,rfl⟩ ?_ ?_
  · simp -dsimp only [go_sem,↓reduceIte,Nat.reduceEqDiff,Nat.reduceAdd,Nat.reduceSub,Nat.reduceMul,Nat.reduceLT,Nat.reduceLeDiff,reduceCtorEq]; simp
  intro k ⟨hk,hp⟩
  simp -dsimp only [go_sem,↓reduceIte,Nat.reduceEqDiff,Nat.reduceAdd,Nat.reduceSub,Nat.reduceMul,Nat.reduceLT,Nat.reduceLeDiff,reduceCtorEq,hf]
  refine ⟨fun h=>⟨by omega,h,by omega, ?_⟩,fun h=>?_⟩
  · have hk' : k < l.length:=by omega
    have hm' : k < m.length:=by omega
    rw [Q0v hk']
    simp -dsimp only [go_sem,↓reduceIte,Nat.reduceEqDiff,Nat.reduceAdd,Nat.reduceSub,Nat.reduceMul,Nat.reduceLT,Nat.reduceLeDiff,reduceCtorEq]
    refine ⟨by omega,by omega,by omega, ?_⟩
    rw [Q0v hm']
    simp -dsimp only [go_sem,↓reduceIte,Nat.reduceEqDiff,Nat.reduceAdd,Nat.reduceSub,Nat.reduceMul,Nat.reduceLT,Nat.reduceLeDiff,reduceCtorEq]
    refine ⟨fun h=>?_,fun h=>⟨k + 1,⟨by omega, ?_⟩,by omega, ?_⟩⟩
    · have : l ≠ m:=by rintro rfl; exact h rfl
      simp [this]
    · exact X2v hk' hm' hp (by simpa using h)
    · rw [w64 (by omega)]; omega
  · have : k = l.length:=by omega
    subst this
    rw [List.take_length,hlm,List.take_length] at hp
    simp [hp]
theorem RD.eq_iff {r s : RD} : r = s ↔ r.neg = s.neg ∧ r.mag = s.mag ∧ r.den = s.den:=by
 cases r; cases s; simp
theorem Q3x (f g : Fl) (hf : f ≠ .u) (hg : g ≠ .u) (r s : RD) (hr : r.fit) (hs : s.fit) : PC PP Q6j [rV f r,rV g s] (Bo (decide (r = s))) []:=by
 simp only [RD.eq_iff]
 obtain ⟨b,m,d⟩:=r
 obtain ⟨b',m',d'⟩:=s
 obtain ⟨h1,h2⟩:=hr
 obtain ⟨h3,h4⟩:=hs
 try simp only at *
 refine tx X0D Q5c [] (by kernel_rfl) ?_
 simp -dsimp only [go_sem,simprocAttr,hf,hg]
 refine ⟨fun h=>?_,fun h=>by simp at h; simp [h]⟩
 refine callP (X4v f g hf hg m m' h1 h3) (by simp -dsimp only [go_sem,simprocAttr,hf,hg]) ?_
 simp -dsimp only [go_sem,simprocAttr,hf,hg]
 refine ⟨fun h'=>?_,fun h'=>by simp [h']⟩
 refine callP (X4v f g hf hg d d' h2 h4) (by simp -dsimp only [go_sem,simprocAttr,hf,hg]) ?_
 simp -dsimp only [go_sem,simprocAttr,hf,hg]
 simp at h; simp [h,h']
theorem RD.getD {l : List RD} {i : Nat} (h : i < l.length) : l.getD i RD.zero = l[i]:=by simp [h]
theorem X5c {l m : List RD} {k : Nat} (hl : k < l.length) (hm : k < m.length) (h : l.take k = m.take k) (he : l[k] = m[k]) : l.take (k + 1) = m.take (k + 1):=by
 rw [List.take_succ_eq_append_getElem hl,List.take_succ_eq_append_getElem hm,h,he]
theorem Q7g (f g : Fl) (hf : f ≠ .u) (hg : g ≠ .u) (l m : List RD) (hl : fitL l) (hm : fitL m) : PC PP Q3J [sR f l,sR g m] (Bo (decide (l = m))) []:=by
  obtain ⟨h1,h2⟩:=hl
  obtain ⟨h3,h4⟩:=hm
  refine tx Q7u Q2O [] (by kernel_rfl) ?_
  simp -dsimp only [go_sem,↓reduceIte,Nat.reduceEqDiff,Nat.reduceAdd,Nat.reduceSub,Nat.reduceMul,Nat.reduceLT,Nat.reduceLeDiff,reduceCtorEq,hf,hg]
  refine ⟨fun h=>?_,fun h=>?_⟩
  · have : l ≠ m:=by rintro rfl; exact h rfl
    simp [this]
  have hlm : l.length = m.length:=by omega
  refine loopI (fun k : Nat=>k ≤ l.length ∧ l.take k = m.take k) (fun k=>⟨[(0,sR f l),(1,sR g m),(12,I l.length),(13,I k)],[]⟩) (fun k=>l.length - k) 0 ⟨by omega,rfl⟩ ?_ ?_
  · simp -dsimp only [go_sem,↓reduceIte,Nat.reduceEqDiff,Nat.reduceAdd,Nat.reduceSub,Nat.reduceMul,Nat.reduceLT,Nat.reduceLeDiff,reduceCtorEq]; simp
  intro k ⟨hk,hp⟩
  simp -dsimp only [go_sem,↓reduceIte,Nat.reduceEqDiff,Nat.reduceAdd,Nat.reduceSub,Nat.reduceMul,Nat.reduceLT,Nat.reduceLeDiff,reduceCtorEq,hf,hg]
  refine ⟨fun h=>⟨by omega,h,by omega,by omega,by omega,by omega, ?_⟩,fun h=>?_⟩
  · have hk' : k < l.length:=by omega
    have hm' : k < m.length:=by omega
    rw [X6d hk',X6d hm']
    refine callP (Q3x f g hf hg l[k] m[k] (h2 _ (List.getElem_mem hk')) (h4 _ (List.getElem_mem hm'))) (by simp -dsimp only [go_sem,↓reduceIte,Nat.reduceEqDiff,Nat.reduceAdd,Nat.reduceSub,Nat.reduceMul,Nat.reduceLT,Nat.reduceLeDiff,reduceCtorEq,hf,hg]) ?_
    simp -dsimp only [go_sem,↓reduceIte,Nat.reduceEqDiff,Nat.reduceAdd,Nat.reduceSub,Nat.reduceMul,Nat.reduceLT,Nat.reduceLeDiff,reduceCtorEq,hf,hg]
    refine ⟨fun h=>?_,fun h=>⟨k + 1,⟨by omega,X5c hk' hm' hp (by simpa using h)⟩,by omega,by rw [w64 (by omega)]; omega⟩⟩
    have : l ≠ m:=by rintro rfl; simp at h
    simp [this]
  · have : k = l.length:=by omega
    subst this
    rw [List.take_length,hlm,List.take_length] at hp
    simp [hp]
structure QD where
 code : Int
 x : List RD
 value : RD
deriving DecidableEq
def reC (f : Fl) (q : QD) : List V:=[I q.code,sR f q.x,Bo q.value.neg,sI f q.value.mag,sI f q.value.den]
abbrev reV (f : Fl) (q : QD) : V:=.agg (reC f q)
def QD.sz (q : QD) : Nat:=szL q.x + q.value.sz
def QD.fit (q : QD) : Prop:=fitL q.x ∧ q.value.fit
def QD.small (q : QD) : Prop:=smallL q.x ∧ q.value.small
theorem RD.small.fit {r : RD} (h : r.small) : r.fit:=⟨by have:=h.1; omega,by have:=h.2; omega⟩
theorem smallL.fit {l : List RD} (h : smallL l) : fitL l:=⟨by have:=h.1; omega,fun r hr=>(h.2 r hr).fit⟩
theorem QD.eq_iff {r s : QD} : r = s ↔ r.code = s.code ∧ r.x = s.x ∧ r.value = s.value:=by
 cases r; cases s; simp
theorem Q7Y (f g : Fl) (hf : f ≠ .u) (hg : g ≠ .u) (q r : QD) (hl : q.small) (hm : r.small) : PC PP Q4b [reV f q,reV g r] (Bo (decide (q = r))) []:=by
 simp only [QD.eq_iff]
 obtain ⟨c,x,v⟩:=q
 obtain ⟨c',x',v'⟩:=r
 obtain ⟨h1,h2⟩:=hl
 obtain ⟨h3,h4⟩:=hm
 try simp only at *
 refine tx Q8p Q3s [] (by kernel_rfl) ?_
 simp only [reV,reC]
 simp -dsimp only [go_sem,simprocAttr,hf,hg]
 refine ⟨fun h=>?_,fun h=>by simp [h]⟩
 refine callP (Q7g f g hf hg x x' h1.fit h3.fit) (by simp -dsimp only [go_sem,simprocAttr,hf,hg]) ?_
 simp -dsimp only [go_sem,simprocAttr,hf,hg]
 refine ⟨fun h'=>?_,fun h'=>by simp [h']⟩
 refine callP (Q3x f g hf hg v v' h2.fit h4.fit) (by simp -dsimp only [go_sem,simprocAttr,hf,hg]) ?_
 simp -dsimp only [go_sem,simprocAttr,hf,hg]
 simp [h,h']
end Go.Proofs.Ytchlpclgkhggeaa