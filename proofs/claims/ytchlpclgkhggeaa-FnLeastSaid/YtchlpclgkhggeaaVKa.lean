/- part of the proof -/
import Derived.Test.YtchlpclgkhggeaaVIb
import Derived.Test.YtchlpclgkhggeaaVFc
import Derived.ProofKit
import Derived.Test.YtchlpclgkhggeaaVGa
namespace Go.Proofs.Ytchlpclgkhggeaa
open Go Go.RowKit
set_option maxRecDepth 100000
set_option maxHeartbeats 1600000
set_option linter.unusedVariables false
set_option linter.unusedSimpArgs false
@[go_sem] theorem Z0Q : (false != true) = true:=(rfl)
@[go_sem] theorem Z0P : (true != false) = true:=(rfl)
@[go_sem] theorem Z0R : (false != false) = false:=(rfl)
@[go_sem] theorem Z0O : (true != true) = false:=(rfl)
def cmpZ (a b : Int) : Int:=if a < b then -1 else if a = b then 0 else 1
def sgZ (a : Int) : Int:=if a = 0 then 0 else if a < 0 then -1 else 1
theorem Y0N {x y : Int} (hx : zb x = false) (hy : zb y = false) : cmpZ x y = cmpN x.natAbs y.natAbs:=by
 unfold zb at hx hy
 have hx:=of_decide_eq_false hx
 have hy:=of_decide_eq_false hy
 unfold cmpZ cmpN
 repeat' split
 all_goals omega
theorem Y0Q {x y : Int} (hx : zb x = true) (hy : zb y = true) : cmpZ x y = cmpN y.natAbs x.natAbs:=by
 unfold zb at hx hy
 have hx:=of_decide_eq_true hx
 have hy:=of_decide_eq_true hy
 unfold cmpZ cmpN
 repeat' split
 all_goals omega
theorem Y0P {x y : Int} (hx : zb x = true) (hy : zb y = false) : cmpZ x y = -1:=by
 unfold zb at hx hy
 have hx:=of_decide_eq_true hx
 have hy:=of_decide_eq_false hy
 unfold cmpZ
 rw [if_pos (by omega)]
theorem Y0O {x y : Int} (hx : zb x = false) (hy : zb y = true) : cmpZ x y = 1:=by
 unfold zb at hx hy
 have hx:=of_decide_eq_false hx
 have hy:=of_decide_eq_true hy
 unfold cmpZ
 rw [if_neg (by omega),if_neg (by omega)]
theorem Q2v (f g : Fl) (hf : f ≠ .u) (hg : g ≠ .u) (x y : Int) (hx : (lim x.natAbs).length ≤ 1000000) (hy : (lim y.natAbs).length ≤ 1000000) : PC PP Q2A [zV f x,zV g y] (I (cmpZ x y)) []:=by
 refine tx Q6f Q2e [] (by kernel_rfl) ?_
 cases h1 : zb x <;> cases h2 : zb y
 ·rw [Y0N h1 h2]
  simp -dsimp(disch:=first|exact om|fail)only[go_sem,simprocAttr,xE,xN,xC,xP,xA,xZ,h1,h2]
  refine callP (Q4A f g hf hg x.natAbs y.natAbs (by omega) (by omega)) lL ?_
  simp -dsimp(disch:=first|exact om|fail)only[go_sem,simprocAttr,xE,xN,xC,xP,xA,xZ]
 ·rw [Y0O h1 h2]
  simp -dsimp(disch:=first|exact om|fail)only[go_sem,simprocAttr,xE,xN,xC,xP,xA,xZ,h1,h2]
 ·rw [Y0P h1 h2]
  simp -dsimp(disch:=first|exact om|fail)only[go_sem,simprocAttr,xE,xN,xC,xP,xA,xZ,h1,h2]
 ·rw [Y0Q h1 h2]
  simp -dsimp(disch:=first|exact om|fail)only[go_sem,simprocAttr,xE,xN,xC,xP,xA,xZ,h1,h2]
  refine callP (Q4A g f hg hf y.natAbs x.natAbs (by omega) (by omega)) lL ?_
  simp -dsimp(disch:=first|exact om|fail)only[go_sem,simprocAttr,xE,xN,xC,xP,xA,xZ]
theorem Q9w (f g : Fl) (hf : f ≠ .u) (hg : g ≠ .u) (r s : Rat) (h1 : (lim r.num.natAbs).length ≤ 1000) (h2 : (lim r.den).length ≤ 1000) (h3 : (lim s.num.natAbs).length ≤ 1000) (h4 : (lim s.den).length ≤ 1000) : PC PP Q5i [pR f r,pR g s] (I (cmpZ (r.num * s.den) (s.num * r.den))) []:=by
 refine tx Q9A Q4s [] (by kernel_rfl) ?_
 have m1:=Q0s (a:=r.num.natAbs) (d:=s.den)
 have m2:=Q0s (a:=s.num.natAbs) (d:=r.den)
 rw [X6K] at m1 m2
 simp -dsimp(disch:=first|exact om|fail)only[go_sem,simprocAttr,xE,xN,xC,xP,xA,xZ]
 refine callP (Q9D f g hf hg r s.den (by omega) (by omega)) lL ?_
 simp -dsimp(disch:=first|exact om|fail)only[go_sem,simprocAttr,xE,xN,xC,xP,xA,xZ]
 refine callP (Q9D g f hg hf s r.den (by omega) (by omega)) lL ?_
 simp -dsimp(disch:=first|exact om|fail)only[go_sem,simprocAttr,xE,xN,xC,xP,xA,xZ]
 refine callP (Q2v .s .s fls fls (r.num * s.den) (s.num * r.den) (by omega) (by omega)) lL ?_
 simp -dsimp(disch:=first|exact om|fail)only[go_sem,simprocAttr,xE,xN,xC,xP,xA,xZ]
theorem Q0h (f : Fl) (hf : f ≠ .u) (x : Int) (hx : (lim x.natAbs).length ≤ 1000000) : PC PP Q4d [zV f x] (I (sgZ x)) []:=by
  refine tx Q8r Q3u [] (by kernel_rfl) ?_
  by_cases h0 : x = 0
  · subst h0
    rw [show sgZ 0 = 0 from rfl]
    have l0 : lim (Int.natAbs 0) = []:=Q0k
    simp -dsimp(disch:=first|exact om|fail)only[go_sem,↓reduceIte,Nat.reduceEqDiff,Nat.reduceAdd,Nat.reduceSub,Nat.reduceMul,Nat.reduceLT,Nat.reduceLeDiff,reduceCtorEq,xE,xN,xC,xP,xA,xZ,Int.reduceToNat,l0]
  · have hl:=Q1w.1 (show 0 < x.natAbs by omega)
    by_cases h1 : x < 0
    · have e : zb x = true:=decide_eq_true h1
      rw [show sgZ x = -1 by unfold sgZ; rw [if_neg h0,if_pos h1]]
      simp -dsimp(disch:=first|exact om|fail)only[go_sem,↓reduceIte,Nat.reduceEqDiff,Nat.reduceAdd,Nat.reduceSub,Nat.reduceMul,Nat.reduceLT,Nat.reduceLeDiff,reduceCtorEq,xE,xN,xC,xP,xA,xZ,Int.reduceToNat,e]
    · have e : zb x = false:=decide_eq_false h1
      rw [show sgZ x = 1 by unfold sgZ; rw [if_neg h0,if_neg h1]]
      simp -dsimp(disch:=first|exact om|fail)only[go_sem,↓reduceIte,Nat.reduceEqDiff,Nat.reduceAdd,Nat.reduceSub,Nat.reduceMul,Nat.reduceLT,Nat.reduceLeDiff,reduceCtorEq,xE,xN,xC,xP,xA,xZ,Int.reduceToNat,e]
theorem Y0n {n : Nat} (hn : n ≤ 18446744073709551615) : (lim n).length ≤ 3:=Q0o.2 (by
 have : (1000000000 : Int) ^ 3 = 1000000000000000000000000000:=by decide
 omega)
theorem X5o {n : Int} (hn : n.natAbs ≤ 18446744073709551615) : (FQ.ofInt n).1 = some (n : Rat):=by
 unfold FQ.ofInt FQ.fit
 have h1:=Y0n hn
 have e1 : (lim (n : Rat).num.natAbs).length ≤ 24:=by rw [Rat.num_intCast]; omega
 have e2 : (lim (n : Rat).den).length ≤ 24:=by rw [Rat.den_intCast,Q7Q]; decide
 rw [dif_pos ⟨e1,e2⟩]
theorem X8z {f : Fl} {n : Int} (hn : n.natAbs ≤ 18446744073709551615) : pQ f (FQ.ofInt n) = .ptr f [Bo (zb n),sI f (lim n.natAbs),sI f (lim 1)]:=by
 unfold pQ
 rw [X5o hn]
 show V.ptr f [Bo (zb (n : Rat).num),sI f (lim (n : Rat).num.natAbs),sI f (lim (n : Rat).den)] = _
 rw [Rat.num_intCast,Rat.den_intCast]
theorem Q0G (n : Int) (hn : -9223372036854775807 ≤ n ∧ n ≤ 9223372036854775807) : PC PP Q6Z [I n] (zV .s n) []:=by
 refine tx X0V Q5L [] (by kernel_rfl) ?_
 by_cases h : n < 0
 ·have e : ((n.natAbs : Nat) : Int) = -(n + 1) + 1:=by omega
  have q:=X0g n.natAbs (by omega)
  rw [e] at q
  simp -dsimp(disch:=first|exact om|fail)only[go_sem,simprocAttr,xE,xN,xC,xP,xA,xZ]
  refine ⟨_,rfl, ?_⟩
  simp -dsimp(disch:=first|exact om|fail)only[go_sem,simprocAttr,xE,xN,xC,xP,xA,xZ]
  refine callP q lL ?_
  simp -dsimp(disch:=first|exact om|fail)only[go_sem,simprocAttr,xE,xN,xC,xP,xA,xZ]
  refine callP (Q2n n true n.natAbs (by unfold sgn; simp; omega)) lL ?_
  simp -dsimp(disch:=first|exact om|fail)only[go_sem,simprocAttr,xE,xN,xC,xP,xA,xZ]
 ·have e : ((n.natAbs : Nat) : Int) = n:=by omega
  have q:=X0g n.natAbs (by omega)
  rw [e] at q
  simp -dsimp(disch:=first|exact om|fail)only[go_sem,simprocAttr,xE,xN,xC,xP,xA,xZ]
  refine ⟨_,rfl, ?_⟩
  simp -dsimp(disch:=first|exact om|fail)only[go_sem,simprocAttr,xE,xN,xC,xP,xA,xZ]
  refine callP q lL ?_
  simp -dsimp(disch:=first|exact om|fail)only[go_sem,simprocAttr,xE,xN,xC,xP,xA,xZ]
  refine callP (Q2n n false n.natAbs (by unfold sgn; simp; omega)) lL ?_
  simp -dsimp(disch:=first|exact om|fail)only[go_sem,simprocAttr,xE,xN,xC,xP,xA,xZ]
theorem X3u (n : Int) (hn : -9223372036854775807 ≤ n ∧ n ≤ 9223372036854775807) : PC PP Q9s [I n] (pQ .s (FQ.ofInt n)) []:=by
 rw [X8z (by omega)]
 refine tx X3q Q7S [] (by kernel_rfl) ?_
 simp -dsimp(disch:=first|exact om|fail)only[go_sem,simprocAttr,xE,xN,xC,xP,xA,xZ]
 refine callP (Q0G n hn) lL ?_
 simp -dsimp(disch:=first|exact om|fail)only[go_sem,simprocAttr,xE,xN,xC,xP,xA,xZ,X4u]
def FQ.cmp (x y : FQ) : Int:=cmpZ (x.num * y.den) (y.num * x.den)
theorem Q6t (x : FQ) : (qd x).small:=⟨by have:=x.num_le; show (lim x.num.natAbs).length ≤ _; omega,by have:=x.den_le; show (lim x.den).length ≤ _; omega⟩
theorem qd_sz (x : FQ) : (qd x).sz ≤ 48:=by
 have h1:=x.num_le
 have h2:=x.den_le
 show (lim x.num.natAbs).length + (lim x.den).length ≤ 48
 omega
theorem PB.conv {P : Program} {f : FuncId} {args : List V} {r r' : V} {H1 H1' : List Ob} (h : PB P f args r H1) (k : RtB H1 r r' H1') : PB P f args r' H1':=by
 refine ⟨h.1,fun w S B xs hbnd hrep=>?_⟩
 refine (h.2 w S B xs hbnd hrep).mono ?_
 rintro e w' ⟨x,rfl,hb,κ',S',uss',h1,h2,h3,h4,h5,h6,h7,h8,h9⟩
 let E : Env:=⟨w,[],S,B,0,[]⟩
 have how : ∀ b ∈ uss'.flatten,¬ S' b ∧ ¬ B b ∧ b < w'.heap.size ∧ (w.heap.size ≤ b ∨ b ∈ ([] : List Nat)):=by
  intro b hb'
  obtain ⟨q1,q2,q3⟩:=h9 b hb'
  exact ⟨q3,fun hB=>by have:=hbnd b (.inr hB); omega,q2,.inl q1⟩
 have hsb : ∀ b,S' b → b < w'.heap.size:=by
  intro b hs
  rcases h2 b hs with q | q
  ·exact Nat.lt_of_lt_of_le (hbnd b (.inl q)) hb.size
  ·exact q.2
 have hpE : Hp E H1 w' κ' S' uss':={ kl:=h4,al:=h5,ul:=h6,ob:=h7,nd:=h8,ow:=how,sb:=hsb,s0:=h1,s1:=fun b hs=>(h2 b hs).imp (fun q=>q) (fun q=>.inl q.1),bb:=fun b q=>hbnd b (.inr q),kp:=Keeps.of_below _ hb,kk:=fun _ _ q=>by simp [E] at q }
 obtain ⟨κ2,S2,uss2,hp,hr⟩:=k E w' κ' S' uss' x (Nat.le_refl _) hpE h3
 have hnew : ∀ b,S2 b → S b ∨ (w.heap.size ≤ b ∧ b < w'.heap.size):=by
  intro b hs
  rcases hp.s1 b hs with q | q | q
  ·exact .inl q
  ·exact .inr ⟨q,hp.sb b hs⟩
  ·simp [E] at q
 refine ⟨x,rfl,hb,κ2,S2,uss2,hp.s0,hnew,hr,hp.kl,hp.al,hp.ul,hp.ob,hp.nd, ?_⟩
 intro b hb'
 obtain ⟨q1,q2,q3,q4⟩:=hp.ow b hb'
 rcases q4 with q4 | q4
 ·exact ⟨q4,q3,q1⟩
 ·simp [E] at q4
theorem GC.conv {P : Program} {f : FuncId} {args : List V} {r r' : V} {H1 H1' : List Ob} (h : GC P f args [] r H1) (k : RtG 0 H1 r r' H1') : GC P f args [] r' H1':=by
 refine ⟨h.1,fun w S B κ uss xs hp0 hrep=>?_⟩
 have hκ : κ = []:=List.eq_nil_of_length_eq_zero hp0.kl
 have hu : uss = []:=List.eq_nil_of_length_eq_zero hp0.ul
 subst hκ; subst hu
 refine (h.2 w S B [] [] xs hp0 hrep).mono ?_
 rintro e w' ⟨x,rfl,κ',S',uss',hp,hr⟩
 obtain ⟨κ2,S2,uss2,h1,h2⟩:=k ⟨w,[],S,fun _=>False,0,[]⟩ w' κ' S' uss' x (Nat.le_refl _) hp hr
 exact ⟨x,rfl,κ2,S2,uss2,h1,h2⟩
def qs (f : Fl) (l : List FQ) : List V:=l.map (pQ f)
@[go_sem] theorem Q9Y {f : Fl} {l : List FQ} : (qs f l).length = l.length:=by simp [qs]
theorem X6o {f : Fl} {l : List FQ} {i : Nat} : (qs f l).take i = qs f (l.take i):=by simp [qs]
theorem X6p {f : Fl} {l : List FQ} {i : Nat} : (qs f l).drop i = qs f (l.drop i):=by simp [qs]
theorem Y3r {f : Fl} {l : List FQ} {c : V} (h : c ∈ qs f l) : ∃ x,c = pQ f x:=by
 obtain ⟨x,_,rfl⟩:=List.mem_map.1 h; exact ⟨x,rfl⟩
theorem X6q {f : Fl} {l : List FQ} {p : V → Prop} (h : ∀ x,p (pQ f x)) : ∀ c ∈ qs f l,p c:=by
 intro c hc; obtain ⟨x,rfl⟩:=Y3r hc; exact h x
@[go_sem] theorem X9W {f : Fl} {l : List FQ} : (∀ c ∈ qs f l,c.flat) = True:=eq_true (X6q fun _=>of_eq_true Y0B)
@[go_sem] theorem qs_nu {f : Fl} {l : List FQ} (hf : f ≠ .u) : (∀ c ∈ qs f l,c.nu) = True:=eq_true (X6q fun _=>of_eq_true (nu_pQ hf))
@[go_sem] theorem Y1w {f : Fl} {l : List FQ} {i n : Nat} (hf : f ≠ .u) : (∀ c ∈ ((qs f l).drop i).take n,c.nu) = True:=by
 rw [X6p,X6o]; exact qs_nu hf
@[go_sem] theorem Z0g {f : Fl} {l : List FQ} {i : Nat} (h : OM (i < l.length)) : ((qs f l).drop i)[0]? = some (pQ f (l.getD i FQ.bad)):=by
 have h : i < l.length:=h
 simp [qs,List.getElem?_drop,h]
@[go_sem] theorem Z0f {f : Fl} {l : List FQ} {i : Nat} {x : FQ} (h : OM (i < l.length)) : (qs f l).take i ++ [pQ f x] ++ (qs f l).drop (i + 1) = qs f (l.set i x):=by
 have h : i < l.length:=h
 rw [X6o,X6p,show [pQ f x] = qs f [x] from rfl]
 simp only [qs,← List.map_append]
 congr 1
 rw [List.append_assoc,List.singleton_append]
 exact (List.set_eq_take_append_cons_drop ..).symm ▸ by rw [if_pos h]
theorem Y3q {f : Fl} (n : Nat) : (List.replicate n [V.lit (.pointer none)]).flatten = qs f (List.replicate n FQ.bad):=by
 induction n with
 | zero=>rfl
 | succ n ih=>rw [List.replicate_succ,List.flatten_cons,ih,List.replicate_succ]; rfl
theorem Q7h {l : List FQ} {i : Nat} (h : OM (i < l.length)) : (l.map qd).getD i RD.zero = qd (l.getD i FQ.bad):=by
 have h : i < l.length:=h
 simp [h]
attribute [go_sem] List.length_map List.length_set Q7h
@[go_sem] theorem Y5M {H : List Ob} {js : List (Option Nat)} {bk : Bool} {l : List FQ} : RnL H js bk (qs .s l) (qs .s l) [] = True :=
 eq_true (RnL.same (of_eq_true X9W) (fun _=>X6q fun x=>by rcases Q7H .s x with h | ⟨r,h⟩ <;> rw [h] <;> trivial))
theorem smallL.getD {l : List RD} (h : smallL l) {i : Nat} (hi : i < l.length) : (l.getD i RD.zero).small:=by
 rw [List.getD_eq_getElem?_getD,List.getElem?_eq_getElem hi,Option.getD_some]
 exact h.2 _ (List.getElem_mem hi)
def fillQ (l : List FQ) (k : Nat) : List FQ:=l.take k ++ List.replicate (l.length - k) FQ.bad
@[go_sem] theorem X3c {l : List FQ} {k : Nat} : (fillQ l k).length = min k l.length + (l.length - k):=by simp [fillQ]
theorem X5u {l : List FQ} : fillQ l 0 = List.replicate l.length FQ.bad:=by simp [fillQ]
theorem X5v {l : List FQ} : fillQ l l.length = l:=by simp [fillQ]
theorem X7k {l : List FQ} {k : Nat} {x : FQ} (h : k < l.length) (e : x = l.getD k FQ.bad) : (fillQ l k).set k x = fillQ l (k + 1):=by subst e; exact X7j h
theorem X6U {H : List Ob} {f : Fl} : ∀ {l : List FQ},LeL H f (qs .s l) (qs .s l)
 | []=>.nil
 | x :: l=>.cons _ _ _ _ (of_eq_true Y3U) X6U
@[go_sem] theorem X9Q {H : List Ob} {js : List (Option Nat)} {bk : Bool} {l : List RD} : RnL H js bk (rsC .u l) (rsC .u l) [] = True:=eq_true (X9R (by simp))
@[go_sem] theorem Y8b {f : Fl} : rsC f [] = []:=(rfl)
@[go_sem] theorem Y9j {l : List RD} : (∀ c ∈ rsC .s l,c.cl) = True:=eq_true X9x
theorem Y3g {f : Fl} {l : List RD} {i : Nat} (h : OM (i < l.length)) : (rsC f l).drop (i * 3) = Bo (l.getD i RD.zero).neg :: sI f (l.getD i RD.zero).mag :: sI f (l.getD i RD.zero).den :: rsC f (l.drop (i + 1)):=by
 have h : i < l.length:=h
 rw [rs_at h]; simp [h]
attribute [go_sem] Y3g
theorem X9G : szL [] = 0:=rfl
theorem X8f (r : RD) (l : List RD) : szL (r :: l) = 1 + r.sz + szL l:=by unfold szL; simp only [List.length_cons,szS]; omega
structure MD where
 rows : Int
 cols : Int
 cells : List RD
deriving DecidableEq
theorem X6r {l : List FQ} (h : l.length ≤ 1000) : smallL (l.map qd) ∧ szL (l.map qd) ≤ 100000:=by
 constructor
 ·refine ⟨by rw [List.length_map]; omega,fun r hr=>?_⟩
  obtain ⟨x,_,rfl⟩:=List.mem_map.1 hr
  exact Q6t x
 ·have key : ∀ m : List FQ,szL (m.map qd) ≤ 49 * m.length:=by
   intro m
   induction m with
   | nil=>simp [X9G]
   | cons x m ih =>
    rw [List.map_cons,X8f,List.length_cons]
    have:=qd_sz x
    omega
  have:=key l
  omega
mutual
inductive Rd (P : Program) : TypeId → List V → Prop
 | int (t : TypeId) (k : IntKind) (n : Int) : P.underlying t = some (.int k) → (Lit.int k n).wf = true → Rd P t [.lit (.int k n)]
 | bool (t : TypeId) (b : Bool) : P.underlying t = some .bool → Rd P t [.lit (.bool b)]
 | slice (t e : TypeId) (n : Nat) (cs : List V) : P.underlying t = some (.slice e) → n ≤ maxLen → RdN P e n cs → Rd P t [.sl .b (P.cellsOf e) n cs]
 | struct (t : TypeId) (fs : Array Field) (vs : List V) : P.underlying t = some (.struct fs) → RdS P (fs.toList.map (·.type)) vs → Rd P t vs
inductive RdN (P : Program) : TypeId → Nat → List V → Prop
 | zero (e : TypeId) : RdN P e 0 []
 | succ (e : TypeId) (n : Nat) (vs ws : List V) : Rd P e vs → vs.length = P.cellsOf e → RdN P e n ws → RdN P e (n + 1) (vs ++ ws)
inductive RdS (P : Program) : List TypeId → List V → Prop
 | nil : RdS P [] []
 | cons (t : TypeId) (ts : List TypeId) (vs ws : List V) : Rd P t vs → vs.length = P.cellsOf t → RdS P ts ws → RdS P (t :: ts) (vs ++ ws)
end
def tiled (P : Program) : Nat → List Field → Bool
 | _,[]=>true
 | o,f :: fs=>Nat.beq f.offset o && tiled P (o + P.cellsOf f.type) fs
def ends (P : Program) : Nat → List Field → Nat
 | o,[]=>o
 | o,f :: fs=>ends P (o + P.cellsOf f.type) fs
def plainT (P : Program) : Nat → TypeId → Bool
 | 0,_=>false
 | n + 1,t=>match P.underlying t with
  | some (.int _)=>true
  | some .bool=>true
  | some (.slice e)=>plainT P n e && Nat.blt 0 (P.cellsOf e)
  | some (.struct fs)=>fs.toList.all (fun f=>plainT P n f.type) && tiled P 0 fs.toList && Nat.beq (ends P 0 fs.toList) (P.cellsOf t)
  | _=>false
section
variable {H : Type} {enc : TypeId × Value → H} {P : Program} {w : World} {held : Bool}
abbrev Old (w : World) : BS:=fun b=>b < w.heap.size
theorem Y1a {a : Addr} {i j : Nat} (h : a.spot = none) : (a.add i).add j = ⟨a.block,a.off + i + j,none⟩:=by
 obtain ⟨b,o,s⟩:=a
 obtain rfl : s = none:=h
 rw [Addr.mid,Addr.mid]
theorem X3w : ∀ {n fuel : Nat} {t : TypeId} {cs : List Value} {x : DataW H × List MemPlace},plainT P n t = true → DataW.trod enc P w 0 (fun _=>true) held fuel t cs = some x →
  ∃ vs,Rd P t vs ∧ vs.length = cs.length ∧ ∀ S : BS,RepL w S (Old w) [] vs cs []
 | 0,_,_,_,_,h,_=>by cases h
 | n + 1,fuel,t,cs,x,hp,h=>by
  unfold plainT at hp
  split at hp
  ·rename_i k ht
   obtain ⟨m,rfl,_,hw⟩:=DataW.trod_int ht h
   exact ⟨_,.int t k m ht hw,rfl,fun S=>⟨_,[],[],[],rfl,rfl,⟨rfl,rfl,rfl⟩,rfl,rfl⟩⟩
  ·rename_i ht
   obtain ⟨b,rfl,_⟩:=DataW.trod_bool ht h
   exact ⟨_,.bool t b ht,rfl,fun S=>⟨_,[],[],[],rfl,rfl,⟨rfl,rfl,rfl⟩,rfl,rfl⟩⟩
  ·rename_i e ht
   simp only [Bool.and_eq_true] at hp
   have hk : 0 < P.cellsOf e:=by have:=hp.2; simp [Nat.blt] at this; omega
   rcases DataW.trod_slice ht h with ⟨rfl,_⟩ | ⟨a,len,cap,elems,rest,m,_,rfl,_,_,hlc,hcm,hel,hall,_,_⟩
   ·exact ⟨_,.slice t e 0 [] ht (Nat.zero_le _) (.zero e),rfl,fun S=>⟨_,[],[],[],rfl,rfl,⟨none,0,rfl,Nat.le_refl _,Nat.zero_le _,by simp,.inl ⟨rfl,rfl,fun _=>rfl⟩⟩,rfl,rfl⟩⟩
   ·have hspot : 0 < len → a.spot = none ∧ a.block < w.heap.size:=by
     intro hpos
     have h0:=hall 0 hpos
     have hlt : 0 < elems.length:=by omega
     rw [List.getElem?_eq_getElem hlt] at h0
     cases hc : w.cells? 0 (a.add (0 * P.cellsOf e)) (P.cellsOf e) with
     | none=>rw [hc] at h0; cases h0
     | some c0 =>
      obtain ⟨_,hl,hcell⟩:=World.cells?_some hc
      have:=hcell 0 hk
      have e0 : (a.add (0 * P.cellsOf e)).add 0 = a:=by simp [Addr.add]
      rw [e0] at this
      have hs : (w.cell? a).isSome = true:=by rw [this,List.getElem?_eq_getElem (by omega)]; rfl
      unfold World.cell? at hs
      split at hs
      ·rename_i hb
       refine ⟨?_,(Array.getElem?_eq_some_iff.1 hb).1⟩
       split at hs
       ·cases hs
       ·rename_i hns; cases hsp : a.spot <;> simp_all
      ·cases hs
    have key : ∀ m i,i + m = len → ∃ vs,RdN P e m vs ∧ vs.length = m * P.cellsOf e ∧ ∀ S : BS,Mem w S (Old w) [] vs a.block (a.off + i * P.cellsOf e) []:=by
     intro m
     induction m with
     | zero=>intro i _; exact ⟨[],.zero e,by simp,fun S=>rfl⟩
     | succ m ih =>
      intro i hi
      obtain ⟨ws,h1,h2,h3⟩:=ih (i + 1) (by omega)
      have hi':=hall i (by omega)
      have hlt : i < elems.length:=by omega
      rw [List.getElem?_eq_getElem hlt] at hi'
      cases hc : w.cells? 0 (a.add (i * P.cellsOf e)) (P.cellsOf e) with
      | none=>rw [hc] at hi'; cases hi'
      | some ci =>
       rw [hc] at hi'
       obtain ⟨vs,g1,g2,g3⟩:=X3w hp.1 hi'
       obtain ⟨_,hl,hcell⟩:=World.cells?_some hc
       refine ⟨vs ++ ws,.succ e m vs ws g1 (by omega) h1,by rw [List.length_append,h2,g2,hl,Nat.succ_mul]; omega,fun S=>?_⟩
       refine Mem.append.2 ⟨[],[],rfl,Mem.of_vals (g3 S) ?_, ?_⟩
       ·intro j v hj
        have hjl:=(List.getElem?_eq_some_iff.1 hj).1
        have:=hcell j (by omega)
        rw [Y1a (hspot (by omega)).1,hj] at this
        exact this
       ·have:=h3 S
        rw [Nat.succ_mul,← Nat.add_assoc] at this
        rw [g2,hl]; exact this
    obtain ⟨vs,h1,h2,h3⟩:=key len 0 (by omega)
    refine ⟨_,.slice t e len vs ht (by omega) h1,rfl,fun S=>⟨_,[],[],[],rfl,rfl,⟨some a,cap,rfl,hlc,hcm,h2, ?_⟩,rfl,rfl⟩⟩
    by_cases hz : len = 0
    ·exact .inl ⟨hz,rfl,fun h=>by cases h⟩
    ·obtain ⟨hs,hb⟩:=hspot (by omega)
     refine .inr ⟨a.block,a.off,[], ?_, ?_,.inr hb,rfl,rfl⟩
     ·obtain ⟨b,o,s⟩:=a; obtain rfl : s = none:=hs; rfl
     ·have:=h3 S; rw [Nat.zero_mul,Nat.add_zero] at this; exact this
  ·rename_i fs ht
   simp only [Bool.and_eq_true,List.all_eq_true] at hp
   obtain ⟨xs,m,_,_,hcl,hxl,hall⟩:=DataW.trod_struct ht h
   have hend : ends P 0 fs.toList = P.cellsOf t:=by simpa using hp.2
   have key : ∀ (l : List Field) (o : Nat),tiled P o l = true → (∀ f ∈ l,plainT P n f.type = true) → (∀ f ∈ l,∃ y,DataW.trod enc P w 0 (fun _=>true) held m f.type ((cs.drop f.offset).take (P.cellsOf f.type)) = some y) →
     ends P o l = cs.length → ∃ vs,RdS P (l.map (·.type)) vs ∧ o + vs.length = cs.length ∧ ∀ S : BS,RepL w S (Old w) [] vs (cs.drop o) []:=by
    intro l
    induction l with
    | nil =>
     intro o _ _ _ he
     have he : o = cs.length:=he
     exact ⟨[],.nil,by simpa using he,fun S=>⟨by rw [he]; simp,rfl⟩⟩
    | cons f l ih =>
     intro o ht hpl htr he
     unfold tiled at ht
     simp only [Bool.and_eq_true,Nat.beq_eq_true_eq] at ht
     have ho : f.offset = o:=by simpa using ht.1
     obtain ⟨ws,h1,h2,h3⟩:=ih (o + P.cellsOf f.type) ht.2 (fun f hf=>hpl f (by simp [hf])) (fun f hf=>htr f (by simp [hf])) he
     obtain ⟨y,hy⟩:=htr f (by simp)
     obtain ⟨vs,g1,g2,g3⟩:=X3w (hpl f (by simp)) hy
     rw [ho] at g2 g3
     have hlen : vs.length = P.cellsOf f.type:=by rw [g2,List.length_take,List.length_drop]; omega
     refine ⟨vs ++ ws,.cons _ _ vs ws g1 hlen h1,by rw [List.length_append]; omega,fun S=>?_⟩
     have:=(g3 S).nils (h3 S)
     rw [← List.drop_drop,List.take_append_drop] at this
     exact this
   have hfs : ∀ f ∈ fs.toList,∃ y,DataW.trod enc P w 0 (fun _=>true) held m f.type ((cs.drop f.offset).take (P.cellsOf f.type)) = some y:=by
    intro f hf
    obtain ⟨i,hi⟩:=List.getElem?_of_mem hf
    have hi' : fs[i]? = some f:=by simpa using hi
    have hlt : i < xs.length:=by rw [hxl]; exact (Array.getElem?_eq_some_iff.1 hi').1
    exact ⟨xs[i],by rw [hall i f hi',List.getElem?_eq_getElem hlt]⟩
   obtain ⟨vs,h1,h2,h3⟩:=key fs.toList 0 hp.1.2 (fun f hf=>hp.1.1 f hf) hfs (by rw [hend,hcl])
   exact ⟨vs,.struct t fs vs ht h1,by omega,fun S=>by have:=h3 S; simpa using this⟩
  ·cases hp
inductive RdV (P : Program) : TypeId → V → Prop
 | struct (t : TypeId) (fs : Array Field) (vs : List V) : P.underlying t = some (.struct fs) → Rd P t vs → RdV P t (.agg vs)
 | one (t : TypeId) (v : V) : Rd P t [v] → RdV P t v
inductive RdA (P : Program) : List TypeId → List V → Prop
 | nil : RdA P [] []
 | cons (t : TypeId) (ts : List TypeId) (v : V) (vs : List V) : RdV P t v → RdA P ts vs → RdA P (t :: ts) (v :: vs)
open Go.WideShapes in
theorem X8a {n : Nat} {t : TypeId} {v : Value} {d : DataW H} {ps : List MemPlace} {base : Nat} (hp : plainT P n t = true) (hv : Value.okWide P w .any base t v) (h : DataW.Trod enc P w 0 (fun _=>true) held t v d ps) :
  ∃ a,RdV P t a ∧ ∀ S : BS,Rep w S (Old w) [] a v []:=by
 obtain ⟨fuel,h⟩:=h
 obtain ⟨vs,h1,h2,h3⟩:=X3w hp h
 have one : v.cells.toList = [v] → ∃ a,RdV P t a ∧ ∀ S : BS,Rep w S (Old w) [] a v []:=by
  intro e
  rw [e] at h2 h3
  obtain ⟨a,rfl⟩:=List.length_eq_one_iff.1 h2
  refine ⟨a,.one t a h1,fun S=>?_⟩
  obtain ⟨x,xs,u1,u2,e1,e2,e3,e4⟩:=h3 S
  cases e1
  have : u1 = []:=by cases u1 with | nil=>rfl | cons _ _=>simp at e2
  subst this; exact e3
 cases n with
 | zero=>cases hp
 | succ n =>
  unfold plainT at hp
  split at hp
  ·rename_i k ht
   obtain ⟨m,rfl⟩:=okWide_int ht hv
   exact one rfl
  ·rename_i ht
   obtain ⟨b,rfl⟩:=okWide_bool ht hv
   exact one rfl
  ·rename_i e ht
   have : ∀ cs,v ≠ .agg cs:=by
    rintro cs rfl
    simp only [Value.okWide,ht,Cell.okWide,Cell.ok] at hv
   refine one ?_
   unfold Value.cells
   split
   ·exact absurd rfl (this _)
   ·rfl
  ·rename_i fs ht
   obtain ⟨cs,rfl,_⟩:=okWide_struct ht hv
   exact ⟨.agg vs,.struct t fs vs ht h1,fun S=>⟨cs,rfl,h3 S⟩⟩
  ·cases hp
theorem X4o {n : Nat} {base : Nat} : ∀ {ts : List TypeId} {args : List Value} {ds : List (DataW H)} {ps : List MemPlace},(∀ t ∈ ts,plainT P n t = true) → (∀ (j : Nat) t v,ts[j]? = some t → args[j]? = some v → Value.okWide P w .any base t v) →
  DataW.TrodAll enc P w 0 (fun _=>true) held ts args ds ps → ∃ av,RdA P ts av ∧ ∀ S : BS,RepL w S (Old w) [] av args []
 | [],[],[],_,_,_,_=>⟨[],.nil,fun S=>⟨rfl,rfl⟩⟩
 | t :: ts,v :: vs,d :: ds,ps,hp,hv,⟨p,q,h1,h2,_⟩=>by
  obtain ⟨a,e1,e2⟩:=X8a (hp t (by simp)) (hv 0 t v rfl rfl) h1
  obtain ⟨av,e3,e4⟩:=X4o (fun t ht=>hp t (by simp [ht])) (fun j t v h1 h2=>hv (j + 1) t v (by simpa using h1) (by simpa using h2)) h2
  exact ⟨a :: av,.cons _ _ _ _ e1 e3,fun S=>⟨v,vs,[],[],rfl,rfl,e2 S,e4 S⟩⟩
theorem Q7C (hl : laidOutB P = true) {w' : World} (hb : Below w.heap.size w w') : ∀ {ts : List TypeId} {args : List Value} {ds : List (DataW H)} {ps : List MemPlace},(∀ t ∈ ts,P.readableRec t = true ∧ t < P.types.size) →
  DataW.TrodAll enc P w 0 (fun _=>true) true ts args ds ps → (∀ x ∈ ps,x.block < w.heap.size) → DataW.TrodAll enc P w' 0 (fun b=>decide (b < w.heap.size)) true ts args ds ps
 | [],[],[],_,_,h,_=>h
 | t :: ts,v :: vs,d :: ds,ps,hr,⟨p,q,h1,h2,e⟩,hlt=>by
  subst e
  exact ⟨p,q,Below.trod hl (hr t (by simp)).1 (hr t (by simp)).2 h1 hb (fun x hx=>hlt x (by simp [hx])),Q7C hl hb (fun t ht=>hr t (by simp [ht])) h2 (fun x hx=>hlt x (by simp [hx])),rfl⟩
theorem X6W {f : FuncId} {fn : Func} {s : ChangeSpec} {n tb : Nat} (hl : laidOutB P = true) (hr : ∀ t ∈ fn.params.toList,P.readableRec t = true ∧ t < P.types.size) (hp : ∀ t ∈ fn.params.toList,plainT P n t = true)
  (hb : fn.resultTypes = #[tb]) (htb : P.underlying tb = some .bool) (hvars : s.vars = [])
  (hs : ∀ ds : List (DataW H),ds.length = fn.params.size → s.fn H (ds ++ []) = { results:=[.lit (.bool true)],args:=ds })
  (hpc : ∀ av,RdA P fn.params.toList av → PC P f av (.lit (.bool true)) [])
  {W : World} {base : Nat} {args : Array Value} {ds gs : List (DataW H)} {before : List MemPlace}
  (hval : ∀ (j : Nat) t v,fn.params[j]? = some t → args[j]? = some v → Value.okWide P W .any base t v)
  (hW : DataW.Whole enc P fn.params.toList s.vars false W args.toList ds gs before) :
  Calls P f args W fun e W'=>∃ v,e = .returned v ∧ s.post enc P fn false true false false W args v W':=by
 obtain ⟨p,q,hA,hV,rfl,hfz,_⟩:=hW
 have hW' : DataW.Whole enc P fn.params.toList s.vars false W args.toList ds gs (p ++ q):=⟨p,q,hA,hV,rfl,hfz,by simp⟩
 rw [hvars] at hV
 obtain ⟨rfl,rfl⟩ : gs = [] ∧ q = []:=by
  cases gs with
  | nil=>exact ⟨rfl,hV⟩
  | cons _ _=>exact hV.elim
 obtain ⟨av,h1,h2⟩:=X4o hp (fun j t v h3 h4=>hval j t v (by simpa using h3) (by simpa using h4)) hA
 have hlen : ds.length = fn.params.size:=by
  have key : ∀ {ts : List TypeId} {vs : List Value} {ds : List (DataW H)} {ps : List MemPlace},DataW.TrodAll enc P W 0 (fun _=>true) true ts vs ds ps → ds.length = ts.length:=by
   intro ts
   induction ts with
   | nil=>intro vs ds ps h; cases vs <;> cases ds <;> first | rfl | exact h.elim
   | cons t ts ih =>
    intro vs ds ps h
    cases vs with
    | nil=>exact h.elim
    | cons v vs =>
     cases ds with
     | nil=>exact h.elim
     | cons d ds=>obtain ⟨_,_,_,h2,_⟩:=h; simp [ih h2]
  simpa using key hA
 have hcall:=(hpc av h1).2 W (fun _=>False) (Old W) args.toList (fun b hb=>hb.elim (fun h=>h.elim) (fun h=>h)) (h2 _)
 refine Calls.mono hcall ?_
 rintro e W' ⟨x,rfl,hbl,κ',S',uss',_,_,hr',_⟩
 obtain ⟨_,rfl,_⟩:=hr'
 refine ⟨_,rfl,ds,[],p ++ [],[],p,[],hW', ?_, ?_, ?_,hbl.frame _,by intro h; cases h⟩
 ·rw [hs ds hlen,hb]
  exact ⟨[],[],⟨1,by simp [DataW.trod,htb,Value.cells]⟩,rfl,rfl⟩
 ·rw [hs ds hlen]
  exact Q7C hl hbl hr hA (fun x hx=>hW'.lt x (by simpa using hx))
 ·rw [hvars,hs ds hlen]
  rfl
theorem Y3p {t : TypeId} {k : IntKind} {vs : List V} (ht : P.underlying t = some (.int k)) (h : Rd P t vs) : ∃ n,vs = [.lit (.int k n)] ∧ (Lit.int k n).wf = true:=by
 cases h with
 | int _ k' n h1 h2=>rw [ht] at h1; cases h1; exact ⟨n,rfl,h2⟩
 | bool _ b h1=>rw [ht] at h1; cases h1
 | slice _ e n cs h1=>rw [ht] at h1; cases h1
 | struct _ fs vs h1=>rw [ht] at h1; cases h1
theorem X8x {t e : TypeId} {vs : List V} (ht : P.underlying t = some (.slice e)) (h : Rd P t vs) : ∃ n cs,vs = [.sl .b (P.cellsOf e) n cs] ∧ n ≤ maxLen ∧ RdN P e n cs:=by
 cases h with
 | int _ k' n h1 h2=>rw [ht] at h1; cases h1
 | bool _ b h1=>rw [ht] at h1; cases h1
 | slice _ e n cs h1 h2 h3=>rw [ht] at h1; cases h1; exact ⟨n,cs,rfl,h2,h3⟩
 | struct _ fs vs h1=>rw [ht] at h1; cases h1
theorem X9V {t : TypeId} {v : V} (h : RdV P t v) : (∃ fs vs,P.underlying t = some (.struct fs) ∧ v = .agg vs ∧ Rd P t vs) ∨ Rd P t [v]:=by
 cases h
 ·rename_i fs vs h1 h2; exact .inl ⟨fs,vs,h1,rfl,h2⟩
 ·rename_i h; exact .inr h
theorem X9U {t : TypeId} {v : V} (hns : ∀ fs,P.underlying t ≠ some (.struct fs)) (h : RdV P t v) : Rd P t [v] :=
 (X9V h).resolve_left fun ⟨fs,_,h1,_⟩=>hns fs h1
end
open Go Go.RowKit Go.ChangeShapes Go.WideShapes Go.ChangeAt
theorem ownKnobP : ownKnob PP.godebug = none:=by kernel_rfl
theorem laidOutP : laidOutB PP = true:=by kernel_rfl
theorem Y2G : PP.underlying X0G = some .bool:=by kernel_rfl
set_option maxHeartbeats 4000000
def rowQ (c : Nat) (g : Nat → FQ) : List FQ:=(List.range c).map g
@[go_sem] theorem Q0r {c : Nat} {g : Nat → FQ} : (rowQ c g).length = c:=by simp [rowQ]
theorem Q6q {c : Nat} {g : Nat → FQ} {k : Nat} (h : k < c) : (rowQ c g).getD k FQ.bad = g k:=by simp [rowQ,h]
def MD.zero : MD:=⟨0,0,[]⟩
def MD.ok (m : MD) : Bool:=decide (0 ≤ m.rows ∧ m.rows ≤ 24) && decide (0 ≤ m.cols ∧ m.cols ≤ 24) && decide ((m.cells.length : Int) = m.rows * m.cols) && m.cells.all RD.ok
@[go_sem] theorem Y3h {c : Nat} {g : Nat → FQ} {k : Nat} (h : OM (k < c)) : (rowQ c g).getD k FQ.bad = g k:=Q6q h
section
variable {lt : List Nat} {s : St} {t u : TypeId} {x y z : Operand} {n : Nat} {b : BinOp} {c : UnOp} {k : Call} {a : Array (Nat × Operand)}
@[go_sem ↓] theorem Y3a : sepO lt (.load t x) s = True:=(rfl)
@[go_sem ↓] theorem Y2Z : sepO lt (.move x) s = True:=(rfl)
@[go_sem ↓] theorem X9M : sepO lt (.assign x) s = True:=(rfl)
@[go_sem ↓] theorem Y2Y : sepO lt (.nilCheck x) s = True:=(rfl)
@[go_sem ↓] theorem Y7Y : sepO lt (.fieldAddr t x n) s = True:=(rfl)
@[go_sem ↓] theorem Y7X : sepO lt (.indexAddr t x y) s = True:=(rfl)
@[go_sem ↓] theorem Y5J : sepO lt (.binOp b t x y u) s = True:=(rfl)
@[go_sem ↓] theorem Y7W : sepO lt (.unOp c t x) s = True:=(rfl)
@[go_sem ↓] theorem Y2X : sepO lt (.pick x y z) s = True:=(rfl)
@[go_sem ↓] theorem Y3b : sepO lt (.call k) s = True:=(rfl)
@[go_sem ↓] theorem Y5I : sepO lt (.box t x) s = True:=(rfl)
@[go_sem ↓] theorem Y1o : sepO lt (.alloc t) s = True:=(rfl)
@[go_sem ↓] theorem Y1n : sepO lt (.build t a) s = True:=(rfl)
@[go_sem ↓] theorem Y5H : sepO lt (.buildSlice t n a) s = True:=(rfl)
@[go_sem ↓] theorem Y7Z : sepO lt (.extract x n) s = True:=(rfl)
end
end Go.Proofs.Ytchlpclgkhggeaa