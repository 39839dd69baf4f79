/- part of the proof -/
import Derived.Test.YtchlpclgkhggeaaTIb
namespace Go.Proofs.Ytchlpclgkhggeaa
open Go Go.RowKit
set_option maxRecDepth 100000
set_option maxHeartbeats 1600000
set_option linter.unusedVariables false
set_option linter.unusedSimpArgs false
@[go_sem] theorem Z7C : (false != true) = true:=(rfl)
@[go_sem] theorem Z7B : (true != false) = true:=(rfl)
@[go_sem] theorem Z7D : (false != false) = false:=(rfl)
@[go_sem] theorem Z7A : (true != true) = false:=(rfl)
def cmpZ (a b : Int) : Int:=if a < b then -1 else if a = b then 0 else 1
def sgZ (a : Int) : Int:=if a = 0 then 0 else if a < 0 then -1 else 1
theorem Y7k {x y : Int} (hx : zb x = false) (hy : zb y = false) : cmpZ x y = cmpN x.natAbs y.natAbs:=by
 unfold zb at hx hy
 have hx:=of_decide_eq_false hx
 have hy:=of_decide_eq_false hy
 unfold cmpZ cmpN
 repeat' split
 all_goals omega
theorem Y7n {x y : Int} (hx : zb x = true) (hy : zb y = true) : cmpZ x y = cmpN y.natAbs x.natAbs:=by
 unfold zb at hx hy
 have hx:=of_decide_eq_true hx
 have hy:=of_decide_eq_true hy
 unfold cmpZ cmpN
 repeat' split
 all_goals omega
theorem Y7m {x y : Int} (hx : zb x = true) (hy : zb y = false) : cmpZ x y = -1:=by
 unfold zb at hx hy
 have hx:=of_decide_eq_true hx
 have hy:=of_decide_eq_false hy
 unfold cmpZ
 rw [if_pos (by omega)]
theorem Y7l {x y : Int} (hx : zb x = false) (hy : zb y = true) : cmpZ x y = 1:=by
 unfold zb at hx hy
 have hx:=of_decide_eq_false hx
 have hy:=of_decide_eq_true hy
 unfold cmpZ
 rw [if_neg (by omega),if_neg (by omega)]
theorem Q3e (f g : Fl) (hf : f ≠ .u) (hg : g ≠ .u) (x y : Int) (hx : (lim x.natAbs).length ≤ 1000000) (hy : (lim y.natAbs).length ≤ 1000000) : PC PP Q3n [zV f x,zV g y] (I (cmpZ x y)) []:=by
 refine tx Q8z Q2H [] (by kernel_rfl) ?_
 cases h1 : zb x <;> cases h2 : zb y
 ·rw [Y7k h1 h2]
  simp -dsimp(disch:=first|exact om|fail)only[go_sem,simprocAttr,xE,xN,xC,xP,xA,xZ,h1,h2]
  refine callP (Q5Z f g hf hg x.natAbs y.natAbs (by omega) (by omega)) lL ?_
  simp -dsimp(disch:=first|exact om|fail)only[go_sem,simprocAttr,xE,xN,xC,xP,xA,xZ]
 ·rw [Y7l h1 h2]
  simp -dsimp(disch:=first|exact om|fail)only[go_sem,simprocAttr,xE,xN,xC,xP,xA,xZ,h1,h2]
 ·rw [Y7m h1 h2]
  simp -dsimp(disch:=first|exact om|fail)only[go_sem,simprocAttr,xE,xN,xC,xP,xA,xZ,h1,h2]
 ·rw [Y7n h1 h2]
  simp -dsimp(disch:=first|exact om|fail)only[go_sem,simprocAttr,xE,xN,xC,xP,xA,xZ,h1,h2]
  refine callP (Q5Z g f hg hf y.natAbs x.natAbs (by omega) (by omega)) lL ?_
  simp -dsimp(disch:=first|exact om|fail)only[go_sem,simprocAttr,xE,xN,xC,xP,xA,xZ]
theorem Q7d (f g : Fl) (hf : f ≠ .u) (hg : g ≠ .u) (r s : Rat) (h1 : (lim r.num.natAbs).length ≤ 1000) (h2 : (lim r.den).length ≤ 1000) (h3 : (lim s.num.natAbs).length ≤ 1000) (h4 : (lim s.den).length ≤ 1000) : PC PP Q3r [pR f r,pR g s] (I (cmpZ (r.num * s.den) (s.num * r.den))) []:=by
 refine tx X3t Q5N [] (by kernel_rfl) ?_
 have m1:=Q0g (a:=r.num.natAbs) (d:=s.den)
 have m2:=Q0g (a:=s.num.natAbs) (d:=r.den)
 rw [X4i] at m1 m2
 simp -dsimp(disch:=first|exact om|fail)only[go_sem,simprocAttr,xE,xN,xC,xP,xA,xZ]
 refine callP (Q8M f g hf hg r s.den (by omega) (by omega)) lL ?_
 simp -dsimp(disch:=first|exact om|fail)only[go_sem,simprocAttr,xE,xN,xC,xP,xA,xZ]
 refine callP (Q8M g f hg hf s r.den (by omega) (by omega)) lL ?_
 simp -dsimp(disch:=first|exact om|fail)only[go_sem,simprocAttr,xE,xN,xC,xP,xA,xZ]
 refine callP (Q3e .s .s fls fls (r.num * s.den) (s.num * r.den) (by omega) (by omega)) lL ?_
 simp -dsimp(disch:=first|exact om|fail)only[go_sem,simprocAttr,xE,xN,xC,xP,xA,xZ]
theorem Q0m (f : Fl) (hf : f ≠ .u) (x : Int) (hx : (lim x.natAbs).length ≤ 1000000) : PC PP Q5t [zV f x] (I (sgZ x)) []:=by
  refine tx X1K Q4l [] (by kernel_rfl) ?_
  by_cases h0 : x = 0
  · subst h0
    rw [show sgZ 0 = 0 from rfl]
    have l0 : lim (Int.natAbs 0) = []:=Q0o
    simp -dsimp(disch:=first|exact om|fail)only[go_sem,↓reduceIte,Nat.reduceEqDiff,Nat.reduceAdd,Nat.reduceSub,Nat.reduceMul,Nat.reduceLT,Nat.reduceLeDiff,reduceCtorEq,xE,xN,xC,xP,xA,xZ,Int.reduceToNat,l0]
  · have hl:=Q1t.1 (show 0 < x.natAbs by omega)
    by_cases h1 : x < 0
    · have e : zb x = true:=decide_eq_true h1
      rw [show sgZ x = -1 by unfold sgZ; rw [if_neg h0,if_pos h1]]
      simp -dsimp(disch:=first|exact om|fail)only[go_sem,↓reduceIte,Nat.reduceEqDiff,Nat.reduceAdd,Nat.reduceSub,Nat.reduceMul,Nat.reduceLT,Nat.reduceLeDiff,reduceCtorEq,xE,xN,xC,xP,xA,xZ,Int.reduceToNat,e]
    · have e : zb x = false:=decide_eq_false h1
      rw [show sgZ x = 1 by unfold sgZ; rw [if_neg h0,if_neg h1]]
      simp -dsimp(disch:=first|exact om|fail)only[go_sem,↓reduceIte,Nat.reduceEqDiff,Nat.reduceAdd,Nat.reduceSub,Nat.reduceMul,Nat.reduceLT,Nat.reduceLeDiff,reduceCtorEq,xE,xN,xC,xP,xA,xZ,Int.reduceToNat,e]
theorem Q5R (f : Fl) (hf : f ≠ .u) (r : Rat) (h1 : (lim r.num.natAbs).length ≤ 1000) : PC PP Q1z [pR f r] (I (sgZ r.num)) []:=by
 refine tx X2x Q4Y [] (by kernel_rfl) ?_
 simp -dsimp(disch:=first|exact om|fail)only[go_sem,simprocAttr,xE,xN,xC,xP,xA,xZ]
 refine callP (Q0m f hf r.num (by omega)) lL ?_
 simp -dsimp(disch:=first|exact om|fail)only[go_sem,simprocAttr,xE,xN,xC,xP,xA,xZ]
theorem Y2B {n : Nat} (hn : n ≤ 18446744073709551615) : (lim n).length ≤ 3:=Q0p.2 (by
 have : (1000000000 : Int) ^ 3 = 1000000000000000000000000000:=by decide
 omega)
theorem Q8T {n : Int} (hn : n.natAbs ≤ 18446744073709551615) : (FQ.ofInt n).1 = some (n : Rat):=by
 unfold FQ.ofInt FQ.fit
 have h1:=Y2B hn
 have e1 : (lim (n : Rat).num.natAbs).length ≤ 24:=by rw [Rat.num_intCast]; omega
 have e2 : (lim (n : Rat).den).length ≤ 24:=by rw [Rat.den_intCast,X0V]; decide
 rw [dif_pos ⟨e1,e2⟩]
theorem X7J {n : Int} (hn : n.natAbs ≤ 18446744073709551615) : (FQ.ofInt n).num = n:=by
 unfold FQ.num; rw [Q8T hn]; exact Rat.num_intCast n
theorem X7K {n : Int} (hn : n.natAbs ≤ 18446744073709551615) : (FQ.ofInt n).den = 1:=by
 unfold FQ.den; rw [Q8T hn]; exact Rat.den_intCast n
theorem Y4y {f : Fl} {n : Int} (hn : n.natAbs ≤ 18446744073709551615) : pQ f (FQ.ofInt n) = .ptr f [Bo (zb n),sI f (lim n.natAbs),sI f (lim 1)]:=by
 unfold pQ
 rw [Q8T hn]
 show V.ptr f [Bo (zb (n : Rat).num),sI f (lim (n : Rat).num.natAbs),sI f (lim (n : Rat).den)] = _
 rw [Rat.num_intCast,Rat.den_intCast]
theorem Y4v {n : Int} (hn : n.natAbs ≤ 18446744073709551615) : qd (FQ.ofInt n) = ⟨zb n,lim n.natAbs,lim 1⟩:=by
 unfold qd
 rw [X7J hn,X7K hn]
theorem Y0V {n : Int} (hn : n.natAbs ≤ 18446744073709551615) : (FQ.ofInt n).good = true:=by
 unfold FQ.good; rw [Q8T hn]; rfl
theorem Q0R (n : Int) (hn : -9223372036854775807 ≤ n ∧ n ≤ 9223372036854775807) : PC PP Q9W [I n] (zV .s n) []:=by
 refine tx X5z Q7Y [] (by kernel_rfl) ?_
 by_cases h : n < 0
 ·have e : ((n.natAbs : Nat) : Int) = -(n + 1) + 1:=by omega
  have q:=X4k n.natAbs (by omega)
  rw [e] at q
  simp -dsimp(disch:=first|exact om|fail)only[go_sem,simprocAttr,xE,xN,xC,xP,xA,xZ]
  refine ⟨_,rfl, ?_⟩
  simp -dsimp(disch:=first|exact om|fail)only[go_sem,simprocAttr,xE,xN,xC,xP,xA,xZ]
  refine callP q lL ?_
  simp -dsimp(disch:=first|exact om|fail)only[go_sem,simprocAttr,xE,xN,xC,xP,xA,xZ]
  refine callP (Q2S n true n.natAbs (by unfold sgn; simp; omega)) lL ?_
  simp -dsimp(disch:=first|exact om|fail)only[go_sem,simprocAttr,xE,xN,xC,xP,xA,xZ]
 ·have e : ((n.natAbs : Nat) : Int) = n:=by omega
  have q:=X4k n.natAbs (by omega)
  rw [e] at q
  simp -dsimp(disch:=first|exact om|fail)only[go_sem,simprocAttr,xE,xN,xC,xP,xA,xZ]
  refine ⟨_,rfl, ?_⟩
  simp -dsimp(disch:=first|exact om|fail)only[go_sem,simprocAttr,xE,xN,xC,xP,xA,xZ]
  refine callP q lL ?_
  simp -dsimp(disch:=first|exact om|fail)only[go_sem,simprocAttr,xE,xN,xC,xP,xA,xZ]
  refine callP (Q2S n false n.natAbs (by unfold sgn; simp; omega)) lL ?_
  simp -dsimp(disch:=first|exact om|fail)only[go_sem,simprocAttr,xE,xN,xC,xP,xA,xZ]
theorem Q9Z (n : Int) (hn : -9223372036854775807 ≤ n ∧ n ≤ 9223372036854775807) : PC PP X3h [I n] (pQ .s (FQ.ofInt n)) []:=by
 rw [Y4y (by omega)]
 refine tx X8v X0Y [] (by kernel_rfl) ?_
 simp -dsimp(disch:=first|exact om|fail)only[go_sem,simprocAttr,xE,xN,xC,xP,xA,xZ]
 refine callP (Q0R n hn) lL ?_
 simp -dsimp(disch:=first|exact om|fail)only[go_sem,simprocAttr,xE,xN,xC,xP,xA,xZ,X7A]
theorem X3Q (n : Int) (hn : -9223372036854775807 ≤ n ∧ n ≤ 9223372036854775807) : PC PP Q8C [I n] (.agg (bC .s (zb n) (lim n.natAbs))) []:=by
 have hl:=Y2B (show n.natAbs ≤ 18446744073709551615 by omega)
 refine tx X4R Q6X [] (by kernel_rfl) ?_
 by_cases h : n < 0
 ·have q:=Y3O n.natAbs (by omega)
  rw [show ((n.natAbs : Nat) : Int) = -n by omega] at q
  simp -dsimp(disch:=first|exact om|fail)only[go_sem,simprocAttr,xE,xN,xC,xP,xA,xZ]
  refine callP q lL ?_
  simp -dsimp(disch:=first|exact om|fail)only[go_sem,simprocAttr,xE,xN,xC,xP,xA,xZ]
  refine callP (X7T n true n.natAbs .s fls (by unfold sgn; simp; omega) (by omega)) lL ?_
  simp -dsimp(disch:=first|exact om|fail)only[go_sem,simprocAttr,xE,xN,xC,xP,xA,xZ]
 ·have q:=Y3O n.natAbs (by omega)
  rw [show ((n.natAbs : Nat) : Int) = n by omega] at q
  simp -dsimp(disch:=first|exact om|fail)only[go_sem,simprocAttr,xE,xN,xC,xP,xA,xZ]
  refine callP q lL ?_
  simp -dsimp(disch:=first|exact om|fail)only[go_sem,simprocAttr,xE,xN,xC,xP,xA,xZ]
  refine callP (X7T n false n.natAbs .s fls (by unfold sgn; simp; omega) (by omega)) lL ?_
  simp -dsimp(disch:=first|exact om|fail)only[go_sem,simprocAttr,xE,xN,xC,xP,xA,xZ]
theorem X2a (n : Int) (hn : -9223372036854775807 ≤ n ∧ n ≤ 9223372036854775807) : PC PP Q6e [I n] (rV .s (qd (FQ.ofInt n))) []:=by
 rw [Y4v (by omega)]
 refine tx X2u Q4W [] (by kernel_rfl) ?_
 simp -dsimp(disch:=first|exact om|fail)only[go_sem,simprocAttr,xE,xN,xC,xP,xA,xZ]
 refine callP (X3Q n hn) lL ?_
 simp -dsimp(disch:=first|exact om|fail)only[go_sem,simprocAttr,xE,xN,xC,xP,xA,xZ,X7A]
def FQ.cmp (x y : FQ) : Int:=cmpZ (x.num * y.den) (y.num * x.den)
theorem Q4M (x : FQ) : (qd x).small:=⟨by have:=x.num_le; show (lim x.num.natAbs).length ≤ _; omega,by have:=x.den_le; show (lim x.den).length ≤ _; omega⟩
theorem qd_sz (x : FQ) : (qd x).sz ≤ 48:=by
 have h1:=x.num_le
 have h2:=x.den_le
 show (lim x.num.natAbs).length + (lim x.den).length ≤ 48
 omega
theorem PB.conv {P : Program} {f : FuncId} {args : List V} {r r' : V} {H1 H1' : List Ob} (h : PB P f args r H1) (k : RtB H1 r r' H1') : PB P f args r' H1':=by
 refine ⟨h.1,fun w S B xs hbnd hrep=>?_⟩
 refine (h.2 w S B xs hbnd hrep).mono ?_
 rintro e w' ⟨x,rfl,hb,κ',S',uss',h1,h2,h3,h4,h5,h6,h7,h8,h9⟩
 let E : Env:=⟨w,[],S,B,0,[]⟩
 have how : ∀ b ∈ uss'.flatten,¬ S' b ∧ ¬ B b ∧ b < w'.heap.size ∧ (w.heap.size ≤ b ∨ b ∈ ([] : List Nat)):=by
  intro b hb'
  obtain ⟨q1,q2,q3⟩:=h9 b hb'
  exact ⟨q3,fun hB=>by have:=hbnd b (.inr hB); omega,q2,.inl q1⟩
 have hsb : ∀ b,S' b → b < w'.heap.size:=by
  intro b hs
  rcases h2 b hs with q | q
  ·exact Nat.lt_of_lt_of_le (hbnd b (.inl q)) hb.size
  ·exact q.2
 have hpE : Hp E H1 w' κ' S' uss':={ kl:=h4,al:=h5,ul:=h6,ob:=h7,nd:=h8,ow:=how,sb:=hsb,s0:=h1,s1:=fun b hs=>(h2 b hs).imp (fun q=>q) (fun q=>.inl q.1),bb:=fun b q=>hbnd b (.inr q),kp:=Keeps.of_below _ hb,kk:=fun _ _ q=>by simp [E] at q }
 obtain ⟨κ2,S2,uss2,hp,hr⟩:=k E w' κ' S' uss' x (Nat.le_refl _) hpE h3
 have hnew : ∀ b,S2 b → S b ∨ (w.heap.size ≤ b ∧ b < w'.heap.size):=by
  intro b hs
  rcases hp.s1 b hs with q | q | q
  ·exact .inl q
  ·exact .inr ⟨q,hp.sb b hs⟩
  ·simp [E] at q
 refine ⟨x,rfl,hb,κ2,S2,uss2,hp.s0,hnew,hr,hp.kl,hp.al,hp.ul,hp.ob,hp.nd, ?_⟩
 intro b hb'
 obtain ⟨q1,q2,q3,q4⟩:=hp.ow b hb'
 rcases q4 with q4 | q4
 ·exact ⟨q4,q3,q1⟩
 ·simp [E] at q4
theorem GC.conv {P : Program} {f : FuncId} {args : List V} {r r' : V} {H1 H1' : List Ob} (h : GC P f args [] r H1) (k : RtG 0 H1 r r' H1') : GC P f args [] r' H1':=by
 refine ⟨h.1,fun w S B κ uss xs hp0 hrep=>?_⟩
 have hκ : κ = []:=List.eq_nil_of_length_eq_zero hp0.kl
 have hu : uss = []:=List.eq_nil_of_length_eq_zero hp0.ul
 subst hκ; subst hu
 refine (h.2 w S B [] [] xs hp0 hrep).mono ?_
 rintro e w' ⟨x,rfl,κ',S',uss',hp,hr⟩
 obtain ⟨κ2,S2,uss2,h1,h2⟩:=k ⟨w,[],S,fun _=>False,0,[]⟩ w' κ' S' uss' x (Nat.le_refl _) hp hr
 exact ⟨x,rfl,κ2,S2,uss2,h1,h2⟩
def qs (f : Fl) (l : List FQ) : List V:=l.map (pQ f)
abbrev sQ (f g : Fl) (l : List FQ) : V:=.sl f 1 l.length (qs g l)
@[go_sem] theorem Q7F {f : Fl} {l : List FQ} : (qs f l).length = l.length:=by simp [qs]
theorem Y1Y {f : Fl} {l : List FQ} {i : Nat} : (qs f l).take i = qs f (l.take i):=by simp [qs]
theorem Y2a {f : Fl} {l : List FQ} {i : Nat} : (qs f l).drop i = qs f (l.drop i):=by simp [qs]
theorem Y9P {f : Fl} {l : List FQ} {c : V} (h : c ∈ qs f l) : ∃ x,c = pQ f x:=by
 obtain ⟨x,_,rfl⟩:=List.mem_map.1 h; exact ⟨x,rfl⟩
theorem X9X {f : Fl} {l : List FQ} {p : V → Prop} (h : ∀ x,p (pQ f x)) : ∀ c ∈ qs f l,p c:=by
 intro c hc; obtain ⟨x,rfl⟩:=Y9P hc; exact h x
@[go_sem] theorem Y1Z {f : Fl} {l : List FQ} : (∀ c ∈ qs f l,c.flat) = True:=eq_true (X9X fun _=>of_eq_true Y6P)
@[go_sem] theorem qs_nu {f : Fl} {l : List FQ} (hf : f ≠ .u) : (∀ c ∈ qs f l,c.nu) = True:=eq_true (X9X fun _=>of_eq_true (nu_pQ hf))
@[go_sem] theorem Y7S {f : Fl} {l : List FQ} {i n : Nat} (hf : f ≠ .u) : (∀ c ∈ ((qs f l).drop i).take n,c.nu) = True:=by
 rw [Y2a,Y1Y]; exact qs_nu hf
@[go_sem] theorem Z6R {f : Fl} {l : List FQ} {i : Nat} (h : OM (i < l.length)) : ((qs f l).drop i)[0]? = some (pQ f (l.getD i FQ.bad)):=by
 have h : i < l.length:=h
 simp [qs,List.getElem?_drop,h]
@[go_sem] theorem Z6Q {f : Fl} {l : List FQ} {i : Nat} {x : FQ} (h : OM (i < l.length)) : (qs f l).take i ++ [pQ f x] ++ (qs f l).drop (i + 1) = qs f (l.set i x):=by
 have h : i < l.length:=h
 rw [Y1Y,Y2a,show [pQ f x] = qs f [x] from rfl]
 simp only [qs,← List.map_append]
 congr 1
 rw [List.append_assoc,List.singleton_append]
 exact (List.set_eq_take_append_cons_drop ..).symm ▸ by rw [if_pos h]
theorem X9W {f : Fl} (n : Nat) : (List.replicate n [V.lit (.pointer none)]).flatten = qs f (List.replicate n FQ.bad):=by
 induction n with
 | zero=>rfl
 | succ n ih=>rw [List.replicate_succ,List.flatten_cons,ih,List.replicate_succ]; rfl
@[go_sem] theorem Z2k {f : Fl} {l : List RD} {i : Nat} (h : OM (i < l.length)) : ((rsC f l).drop (i * 3)).take 3 = rdC f (l.getD i RD.zero):=by
 have h : i < l.length:=h
 rw [Y6c h]
 simp [h]
theorem Y9E {f : Fl} {l : List RD} {r : RD} : rsC f l ++ [Bo r.neg,sI f r.mag,sI f r.den] = rsC f (l ++ [r]):=by
 rw [X2d]; rfl
theorem X4t {l : List FQ} {i : Nat} (h : OM (i < l.length)) : (l.map qd).getD i RD.zero = qd (l.getD i FQ.bad):=by
 have h : i < l.length:=h
 simp [h]
theorem X2T {l : List RD} {i : Nat} (h : OM (i < l.length)) : (l.map rdq).getD i FQ.bad = rdq (l.getD i RD.zero):=by
 have h : i < l.length:=h
 simp [h]
@[go_sem] theorem Y4N {α : Type} {l : List α} {i : Nat} {x d : α} (h : OM (i < l.length)) : (l.set i x).getD i d = x:=by
 have h : i < l.length:=h
 simp [h]
attribute [go_sem] List.length_map List.length_set X4t
@[go_sem] theorem Z2n {H : List Ob} {js : List (Option Nat)} {f : Fl} {l : List FQ} : RnL H js true (qs f l) (qs f l) [] = True :=
 eq_true (RnL.same (of_eq_true Y1Z) (fun h=>by cases h))
@[go_sem] theorem Z2m {H : List Ob} {js : List (Option Nat)} {bk : Bool} {l : List FQ} : RnL H js bk (qs .s l) (qs .s l) [] = True :=
 eq_true (RnL.same (of_eq_true Y1Z) (fun _=>X9X fun x=>by rcases Q4O .s x with h | ⟨r,h⟩ <;> rw [h] <;> trivial))
@[go_sem] theorem Y7u {P : Program} {t : TypeId} {f : Fl} {x : FQ} {K : V → Prop} : binC P .eql t (pQ f x) (.lit (.pointer none)) K = (tptr P t = true ∧ K (.lit (.bool (!x.good)))):=by
 obtain ⟨x,hx⟩:=x
 cases x with
 | none=>exact X8r
 | some r=>exact X8p
@[go_sem] theorem Y7t {P : Program} {t : TypeId} {f : Fl} {x : FQ} {K : V → Prop} : binC P .neq t (pQ f x) (.lit (.pointer none)) K = (tptr P t = true ∧ K (.lit (.bool x.good))):=by
 obtain ⟨x,hx⟩:=x
 cases x with
 | none=>exact X8q
 | some r=>exact X8o
theorem Y0q {α : Type} {p : α → Bool} {l : List α} (h : l.all p = true) {i : Nat} {d : α} (hi : i < l.length) : p (l.getD i d) = true:=by
 rw [List.all_eq_true] at h
 rw [List.getD_eq_getElem?_getD,List.getElem?_eq_getElem hi,Option.getD_some]
 exact h _ (List.getElem_mem hi)
theorem smallL.getD {l : List RD} (h : smallL l) {i : Nat} (hi : i < l.length) : (l.getD i RD.zero).small:=by
 rw [List.getD_eq_getElem?_getD,List.getElem?_eq_getElem hi,Option.getD_some]
 exact h.2 _ (List.getElem_mem hi)
theorem X9H {n : Nat} {f : Fl} {l l' : List FQ} (h : l = l') : VkL n (qs f l) (qs f l'):=by
 subst h; exact VkL.refl_of (X9X fun x=>by rcases Q4O f x with h | ⟨r,h⟩ <;> rw [h] <;> trivial)
def fillQ (l : List FQ) (k : Nat) : List FQ:=l.take k ++ List.replicate (l.length - k) FQ.bad
@[go_sem] theorem X2U {l : List FQ} {k : Nat} : (fillQ l k).length = min k l.length + (l.length - k):=by simp [fillQ]
theorem Q8Y {l : List FQ} : fillQ l 0 = List.replicate l.length FQ.bad:=by simp [fillQ]
theorem X2n {l : List FQ} : fillQ l l.length = l:=by simp [fillQ]
theorem X1i {l : List FQ} {k : Nat} {x : FQ} (h : k < l.length) (e : x = l.getD k FQ.bad) : (fillQ l k).set k x = fillQ l (k + 1):=by subst e; exact Y2Y h
theorem Y0h (f : Fl) (hf : f ≠ .u) (l : List RD) (hl : smallL l) (ha : l.all RD.ok = true) : PB PP Q8E [sR f l] (.tup [.rsl 0 1 0 l.length,Bo true]) [⟨.own,Q0z,qs .b (l.map rdq)⟩]:=by
 refine txb X3f Q6t [] [] [] (by kernel_rfl) ?_
 have h1:=hl.1
 simp -dsimp(disch:=first|exact om|fail)only[go_sem,simprocAttr,xE,xN,xC,xP,xA,xZ]
 rw [X9W]
 refine loopI (fun k : Nat=>k ≤ l.length) (fun k=>⟨[(4,.rsl 0 1 0 l.length),(10,sR f l),(11,I l.length),(12,I k)],[⟨.own,Q0z,qs .b (fillQ (l.map rdq) k)⟩]⟩) (fun k=>l.length - k) 0 (by omega) ?_ ?_
 ·simp -dsimp(disch:=first|exact om|fail)only[go_sem,simprocAttr,xE,xN,xC,xP,xA,xZ]
  refine X9H ?_
  rw [Q8Y,List.length_map]
 intro k hk
 by_cases h : k < l.length
 ·simp -dsimp(disch:=first|exact om|fail)only[go_sem,simprocAttr,xE,xN,xC,xP,xA,xZ]
  refine callB' (X0U f hf (l.getD k RD.zero) (hl.getD h)) lB lF ?_
  have hg : (rdq (l.getD k RD.zero)).good = true:=by rw [X3y]; exact Y0q ha h
  have e1 : (fillQ (l.map rdq) k).length = l.length:=by simp [fillQ]; omega
  simp -dsimp(disch:=first|exact om|fail)only[go_sem,simprocAttr,xE,xN,xC,xP,xA,xZ,hg]
  exact ⟨k + 1,by omega,by omega,rfl,X9H (X1i (by simp; omega) (X2T h).symm)⟩
 ·obtain rfl : k = l.length:=by omega
  have e1 : fillQ (l.map rdq) l.length = l.map rdq:=by have:=X2n (l:=l.map rdq); rwa [List.length_map] at this
  simp -dsimp(disch:=first|exact om|fail)only[go_sem,simprocAttr,xE,xN,xC,xP,xA,xZ]
  rw [e1]
  exact RtB.nothing [some 0] (by decide) lW lW
theorem Y4E (f : Fl) (hf : f ≠ .u) (l : List RD) (hl : smallL l) (ha : l.all RD.ok = false) : PB PP Q8E [sR f l] (.tup [.emp,Bo false]) []:=by
 refine txb X3f Q6t [] [] [] (by kernel_rfl) ?_
 have h1:=hl.1
 simp -dsimp(disch:=first|exact om|fail)only[go_sem,simprocAttr,xE,xN,xC,xP,xA,xZ]
 rw [X9W]
 refine loopI (fun k : Nat=>k ≤ l.length ∧ (l.take k).all RD.ok = true) (fun k=>⟨[(4,.rsl 0 1 0 l.length),(10,sR f l),(11,I l.length),(12,I k)],[⟨.own,Q0z,qs .b (fillQ (l.map rdq) k)⟩]⟩) (fun k=>l.length - k) 0 ⟨by omega,rfl⟩ ?_ ?_
 ·simp -dsimp(disch:=first|exact om|fail)only[go_sem,simprocAttr,xE,xN,xC,xP,xA,xZ]
  refine X9H ?_
  rw [Q8Y,List.length_map]
 rintro k ⟨hk,hp⟩
 by_cases h : k < l.length
 ·simp -dsimp(disch:=first|exact om|fail)only[go_sem,simprocAttr,xE,xN,xC,xP,xA,xZ]
  refine callB' (X0U f hf (l.getD k RD.zero) (hl.getD h)) lB lF ?_
  have e1 : (fillQ (l.map rdq) k).length = l.length:=by simp [fillQ]; omega
  have hg:=X3y (l.getD k RD.zero)
  cases h2 : (l.getD k RD.zero).ok
  ·rw [h2] at hg
   simp -dsimp(disch:=first|exact om|fail)only[go_sem,simprocAttr,xE,xN,xC,xP,xA,xZ,hg]
   exact RtB.nothing [] (by decide) trivial lW
  ·rw [h2] at hg
   simp -dsimp(disch:=first|exact om|fail)only[go_sem,simprocAttr,xE,xN,xC,xP,xA,xZ,hg]
   refine ⟨k + 1,⟨by omega, ?_⟩,by omega,rfl,X9H (X1i (by simp; omega) (X2T h).symm)⟩
   rw [List.take_succ_eq_append_getElem h,List.all_append,hp]
   rw [List.getD_eq_getElem?_getD,List.getElem?_eq_getElem h,Option.getD_some] at h2
   simp [h2]
 ·exfalso
  rw [List.take_of_length_le (by omega),ha] at hp
  exact absurd hp (by decide)
def allG (l : List FQ) : Bool:=l.all FQ.good
theorem X9c {f : Fl} {l : List RD} {i : Nat} (h : i < l.length) : rsC f (l.take i) ++ rdC f (l.getD i RD.zero) ++ zsR (l.length - (i + 1)) = fillR f l (i + 1):=by
 rw [← Y1b h,List.getD_eq_getElem?_getD,List.getElem?_eq_getElem h,Option.getD_some]
theorem Y1C (f g : Fl) (hf : f ≠ .u) (hg : g ≠ .u) (l : List FQ) (hl : l.length ≤ 1048576) (ha : allG l = true) :
  GC PP X1P [sQ f g l] [] (.tup [.rsl 0 3 0 l.length,Bo true]) [⟨.own,Q1k,rsC .u (l.map qd)⟩]:=by
 refine txg X7g Q9B 0 [] [] [] rfl (by kernel_rfl) ?_
 simp -dsimp(disch:=first|exact om|fail)only[go_sem,simprocAttr,xE,xN,xC,xP,xA,xZ]
 rw [Y8K]
 refine loopJ (fun k : Nat=>k ≤ l.length) (fun k=>⟨[(4,.rsl 0 3 0 l.length),(10,sQ f g l),(11,I l.length),(12,I k)],[⟨.own,Q1k,fillR .u (l.map qd) k⟩]⟩) (fun k=>l.length - k) 0 (by omega) ?_ ?_
 ·refine StI.ren [some 0] [[]] lE (by decide) ?_ lW
  simp -dsimp only [go_sem,simprocAttr]
  rw [Y0Z,List.length_map]
  exact RnL.same Y0s (fun _=>Y5t)
 intro k hk
 by_cases h : k < l.length
 ·have hgd : (l.getD k FQ.bad).good = true:=Y0q ha h
  have hl2 : k < (l.map qd).length:=by rw [List.length_map]; exact h
  simp -dsimp(disch:=first|exact om|fail)only[go_sem,simprocAttr,xE,xN,xC,xP,xA,xZ,hgd]
  refine callO' (X6q g hg (l.getD k FQ.bad)) lL lF ?_
  simp -dsimp(disch:=first|exact om|fail)only[go_sem,simprocAttr,xE,xN,xC,xP,xA,xZ]
  rw [Y1a hl2,Y1d hl2]
  refine ⟨k + 1,by omega,by omega,StI.ren [some 0] [[1,2]] lE (by decide) ?_ lW⟩
  simp -dsimp only [go_sem,simprocAttr]
  rw [← X9c hl2,X4t h,List.length_map]
  exact RnL.app (RnL.app (k1:=[]) (X6x (by simp)) (Y9H rfl rfl)) (k2:=[]) (RnL.same Y0s (fun _=>Y5t))
 ·obtain rfl : k = l.length:=by omega
  have e1:=Y1c (f:=.u) (l:=l.map qd)
  rw [List.length_map] at e1
  simp -dsimp(disch:=first|exact om|fail)only[go_sem,simprocAttr,xE,xN,xC,xP,xA,xZ]
  rw [e1]
  refine RtG.nothing [some 0] lE (by decide) ?_ lW
  simp -dsimp only [go_sem,simprocAttr,List.map_cons,List.map_nil]
  exact X6x (by simp)
@[go_sem] theorem vk_pQ {n : Nat} {f : Fl} {x : FQ} : Vk n (pQ f x) (pQ f x) = True:=by
 refine eq_true (.same _ ?_)
 rcases Q4O f x with h | ⟨r,h⟩ <;> rw [h] <;> trivial
theorem X6D {H : List Ob} {g : Fl} (hg : g ≠ .u) : ∀ {l : List FQ},LeL H .b (qs g l) (qs g l)
 | []=>.nil
 | x :: l=>.cons _ _ _ _ (of_eq_true (le_pQ hg)) (X6D hg)
theorem Y2G {H : List Ob} {f : Fl} : ∀ {l : List FQ},LeL H f (qs .s l) (qs .s l)
 | []=>.nil
 | x :: l=>.cons _ _ _ _ (of_eq_true Z0s) Y2G
@[go_sem] theorem Y6D {H : List Ob} {g : Fl} {id n n' : Nat} {l : List FQ} (hg : g ≠ .u) (h : ownAt H[id]? (qs g l)) (hn : OM (n = l.length)) (hn' : OM (n' = l.length)) : Le H .b (.rsl id 1 0 n) (.sl .b 1 n' (qs g l)) = True:=by
 obtain ⟨ty,h⟩:=h
 have hn : n = l.length:=hn
 have hn' : n' = l.length:=hn'
 subst hn hn'
 have:=Le.rsl (H:=H) (f:=.b) id 1 0 l.length ⟨.own,ty,qs g l⟩ (qs g l) h (.inl rfl) (by simp [Q7F]) (by
  simp only [Nat.zero_mul,List.drop_zero,Nat.mul_one]
  rw [List.take_of_length_le (by simp [Q7F])]; exact X6D hg)
 exact eq_true this
@[go_sem] theorem le_sQ {H : List Ob} {f g : Fl} {n : Nat} {l : List FQ} (hf : f ≠ .u) (hg : g ≠ .u) : Le H .b (.sl f 1 n (qs g l)) (.sl f 1 n (qs g l)) = True:=by
 cases f with
 | s=>exact eq_true (.sl _ _ _ _ _ _ (.inl rfl) (X6D hg))
 | b=>exact eq_true (.sl _ _ _ _ _ _ ⟨rfl,rfl⟩ (X6D hg))
 | u=>exact absurd rfl hf
@[go_sem] theorem Y6h {H : List Ob} {js : List (Option Nat)} {bk : Bool} {l : List RD} : RnL H js bk (rsC .u l) (rsC .u l) [] = True:=eq_true (X6x (by simp))
@[go_sem] theorem Z4I {H : List Ob} {js : List (Option Nat)} {bk : Bool} {l : List RD} : RnL H js bk (rsC .s l) (rsC .s l) [] = True:=eq_true (X6x (by simp))
abbrev vsG (p : List FQ × Bool) : V:=.tup [.rsl 0 3 0 p.1.length,Bo p.2]
abbrev vsH (p : List FQ × Bool) : List Ob:=[⟨.own,Q1k,rsC .u (p.1.map qd)⟩]
abbrev vsS (p : List FQ × Bool) : V:=.tup [sR .s (p.1.map qd),Bo p.2]
abbrev noV : List FQ × Bool:=([],false)
theorem X8G {H : List Ob} : RtG 0 H (.tup [.emp,Bo false]) (vsG noV) (vsH noV):=RtG.ren [none] [[]] trivial (by decide) (by simp -dsimp(disch:=first|exact om|fail)only[go_sem,simprocAttr,xE,xN,xC,xP,xA,xZ]; simp [rsC]) lW
@[go_sem] theorem Z4E {f : Fl} : rsC f [] = []:=(rfl)
@[go_sem] theorem Z5R {l : List RD} : (∀ c ∈ rsC .s l,c.cl) = True:=eq_true Y3B
theorem Y9D {f : Fl} {l : List RD} {i : Nat} (h : OM (i < l.length)) : (rsC f l).drop (i * 3) = Bo (l.getD i RD.zero).neg :: sI f (l.getD i RD.zero).mag :: sI f (l.getD i RD.zero).den :: rsC f (l.drop (i + 1)):=by
 have h : i < l.length:=h
 rw [rs_at h]; simp [h]
attribute [go_sem] Y9D
theorem Y5S : szL [] = 0:=rfl
theorem Y4d (r : RD) (l : List RD) : szL (r :: l) = 1 + r.sz + szL l:=by unfold szL; simp only [List.length_cons,szS]; omega
structure MD where
 rows : Int
 cols : Int
 cells : List RD
deriving DecidableEq
theorem X0H {l : List FQ} (h : l.length ≤ 1000) : smallL (l.map qd) ∧ szL (l.map qd) ≤ 100000:=by
 constructor
 ·refine ⟨by rw [List.length_map]; omega,fun r hr=>?_⟩
  obtain ⟨x,_,rfl⟩:=List.mem_map.1 hr
  exact Q4M x
 ·have key : ∀ m : List FQ,szL (m.map qd) ≤ 49 * m.length:=by
   intro m
   induction m with
   | nil=>simp [Y5S]
   | cons x m ih =>
    rw [List.map_cons,Y4d,List.length_cons]
    have:=qd_sz x
    omega
  have:=key l
  omega
set_option maxHeartbeats 4000000
def sumQ (g : Nat → FQ) : Nat → FQ
 | 0=>FQ.ofInt 0
 | n + 1=>(sumQ g n).add (g n)
theorem X7Z {x : FQ} (h : x.good = true) : ∃ r,x.1 = some r:=by
 unfold FQ.good at h
 cases e : x.1 with
 | none=>rw [e] at h; cases h
 | some r=>exact ⟨r,rfl⟩
theorem Y5s {x : FQ} {r : Rat} (h : x.1 = some r) : x.num = r.num:=by unfold FQ.num; rw [h]
abbrev toS (x : FQ) : V:=.tup [rV .s (qd x),Bo x.good]
abbrev toO (x : FQ) : V:=.tup [rO (qd x),Bo x.good]
theorem Y5P : toO FQ.bad = .tup [rO RD.zero,Bo false]:=by unfold toO; rw [Q9n]; rfl
end Go.Proofs.Ytchlpclgkhggeaa