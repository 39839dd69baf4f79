/- part of the proof -/
import Derived.Test.YtchlpclgkhggeaaGreatVIb
namespace Go.Proofs.YtchlpclgkhggeaaGreat
open Go Go.RowKit
set_option maxRecDepth 100000
set_option maxHeartbeats 1600000
set_option linter.unusedVariables false
set_option linter.unusedSimpArgs false
@[go_sem] theorem J0G : (false != true) = true:=(rfl)
@[go_sem] theorem J0F : (true != false) = true:=(rfl)
@[go_sem] theorem J0H : (false != false) = false:=(rfl)
@[go_sem] theorem J0E : (true != true) = false:=(rfl)
def cmpZ (a b : Int) : Int:=if a < b then -1 else if a = b then 0 else 1
def sgZ (a : Int) : Int:=if a = 0 then 0 else if a < 0 then -1 else 1
theorem Y7h {x y : Int} (hx : zb x = false) (hy : zb y = false) : cmpZ x y = cmpN x.natAbs y.natAbs:=by
 unfold zb at hx hy
 have hx:=of_decide_eq_false hx
 have hy:=of_decide_eq_false hy
 unfold cmpZ cmpN
 repeat' split
 all_goals omega
theorem Y7k {x y : Int} (hx : zb x = true) (hy : zb y = true) : cmpZ x y = cmpN y.natAbs x.natAbs:=by
 unfold zb at hx hy
 have hx:=of_decide_eq_true hx
 have hy:=of_decide_eq_true hy
 unfold cmpZ cmpN
 repeat' split
 all_goals omega
theorem Y7j {x y : Int} (hx : zb x = true) (hy : zb y = false) : cmpZ x y = -1:=by
 unfold zb at hx hy
 have hx:=of_decide_eq_true hx
 have hy:=of_decide_eq_false hy
 unfold cmpZ
 rw [if_pos (by omega)]
theorem Y7i {x y : Int} (hx : zb x = false) (hy : zb y = true) : cmpZ x y = 1:=by
 unfold zb at hx hy
 have hx:=of_decide_eq_false hx
 have hy:=of_decide_eq_true hy
 unfold cmpZ
 rw [if_neg (by omega),if_neg (by omega)]
theorem Q8o (f g : Fl) (hf : f ≠ .u) (hg : g ≠ .u) (x y : Int) (hx : (lim x.natAbs).length ≤ 1000000) (hy : (lim y.natAbs).length ≤ 1000000) : PC PP Q2S [zV f x,zV g y] (I (cmpZ x y)) []:=by
 refine tx Q8M Q2q [] (by kernel_rfl) ?_
 cases h1 : zb x <;> cases h2 : zb y
 ·rw [Y7h h1 h2]
  simp -dsimp(disch:=first|exact om|fail)only[go_sem,simprocAttr,xE,xN,xC,xP,xA,xZ,h1,h2]
  refine callP (Q5A f g hf hg x.natAbs y.natAbs (by omega) (by omega)) lL ?_
  simp -dsimp(disch:=first|exact om|fail)only[go_sem,simprocAttr,xE,xN,xC,xP,xA,xZ]
 ·rw [Y7i h1 h2]
  simp -dsimp(disch:=first|exact om|fail)only[go_sem,simprocAttr,xE,xN,xC,xP,xA,xZ,h1,h2]
 ·rw [Y7j h1 h2]
  simp -dsimp(disch:=first|exact om|fail)only[go_sem,simprocAttr,xE,xN,xC,xP,xA,xZ,h1,h2]
 ·rw [Y7k h1 h2]
  simp -dsimp(disch:=first|exact om|fail)only[go_sem,simprocAttr,xE,xN,xC,xP,xA,xZ,h1,h2]
  refine callP (Q5A g f hg hf y.natAbs x.natAbs (by omega) (by omega)) lL ?_
  simp -dsimp(disch:=first|exact om|fail)only[go_sem,simprocAttr,xE,xN,xC,xP,xA,xZ]
theorem Q0p (f : Fl) (hf : f ≠ .u) (x : Int) (hx : (lim x.natAbs).length ≤ 1000000) : PC PP Q4R [zV f x] (I (sgZ x)) []:=by
  refine tx X3p Q3T [] (by kernel_rfl) ?_
  by_cases h0 : x = 0
  · subst h0
    rw [show sgZ 0 = 0 from rfl]
    have l0 : lim (Int.natAbs 0) = []:=Q0j
    simp -dsimp(disch:=first|exact om|fail)only[go_sem,↓reduceIte,Nat.reduceEqDiff,Nat.reduceAdd,Nat.reduceSub,Nat.reduceMul,Nat.reduceLT,Nat.reduceLeDiff,reduceCtorEq,xE,xN,xC,xP,xA,xZ,Int.reduceToNat,l0]
  · have hl:=Q0E.1 (show 0 < x.natAbs by omega)
    by_cases h1 : x < 0
    · have e : zb x = true:=decide_eq_true h1
      rw [show sgZ x = -1 by unfold sgZ; rw [if_neg h0,if_pos h1]]
      simp -dsimp(disch:=first|exact om|fail)only[go_sem,↓reduceIte,Nat.reduceEqDiff,Nat.reduceAdd,Nat.reduceSub,Nat.reduceMul,Nat.reduceLT,Nat.reduceLeDiff,reduceCtorEq,xE,xN,xC,xP,xA,xZ,Int.reduceToNat,e]
    · have e : zb x = false:=decide_eq_false h1
      rw [show sgZ x = 1 by unfold sgZ; rw [if_neg h0,if_neg h1]]
      simp -dsimp(disch:=first|exact om|fail)only[go_sem,↓reduceIte,Nat.reduceEqDiff,Nat.reduceAdd,Nat.reduceSub,Nat.reduceMul,Nat.reduceLT,Nat.reduceLeDiff,reduceCtorEq,xE,xN,xC,xP,xA,xZ,Int.reduceToNat,e]
theorem Y6q {n : Nat} (hn : n ≤ 18446744073709551615) : (lim n).length ≤ 3:=Q0d.2 (by
 have : (1000000000 : Int) ^ 3 = 1000000000000000000000000000:=by decide
 omega)
theorem X4b {n : Int} (hn : n.natAbs ≤ 18446744073709551615) : (FQ.ofInt n).1 = some (n : Rat):=by
 unfold FQ.ofInt FQ.fit
 have h1:=Y6q hn
 have e1 : (lim (n : Rat).num.natAbs).length ≤ 24:=by rw [Rat.num_intCast]; omega
 have e2 : (lim (n : Rat).den).length ≤ 24:=by rw [Rat.den_intCast,Q5W]; decide
 rw [dif_pos ⟨e1,e2⟩]
theorem Y5X {n : Int} (hn : n.natAbs ≤ 18446744073709551615) : (FQ.ofInt n).num = n:=by
 unfold FQ.num; rw [X4b hn]; exact Rat.num_intCast n
theorem Y5Y {n : Int} (hn : n.natAbs ≤ 18446744073709551615) : (FQ.ofInt n).den = 1:=by
 unfold FQ.den; rw [X4b hn]; exact Rat.den_intCast n
theorem Y8d {f : Fl} {n : Int} (hn : n.natAbs ≤ 18446744073709551615) : pQ f (FQ.ofInt n) = .ptr f [Bo (zb n),sI f (lim n.natAbs),sI f (lim 1)]:=by
 unfold pQ
 rw [X4b hn]
 show V.ptr f [Bo (zb (n : Rat).num),sI f (lim (n : Rat).num.natAbs),sI f (lim (n : Rat).den)] = _
 rw [Rat.num_intCast,Rat.den_intCast]
theorem Y8b {n : Int} (hn : n.natAbs ≤ 18446744073709551615) : qd (FQ.ofInt n) = ⟨zb n,lim n.natAbs,lim 1⟩:=by
 unfold qd
 rw [Y5X hn,Y5Y hn]
theorem Q0W (n : Int) (hn : -9223372036854775807 ≤ n ∧ n ≤ 9223372036854775807) : PC PP X1l [I n] (zV .s n) []:=by
 refine tx X8w Q8k [] (by kernel_rfl) ?_
 by_cases h : n < 0
 ·have e : ((n.natAbs : Nat) : Int) = -(n + 1) + 1:=by omega
  have q:=X6F n.natAbs (by omega)
  rw [e] at q
  simp -dsimp(disch:=first|exact om|fail)only[go_sem,simprocAttr,xE,xN,xC,xP,xA,xZ]
  refine ⟨_,rfl, ?_⟩
  simp -dsimp(disch:=first|exact om|fail)only[go_sem,simprocAttr,xE,xN,xC,xP,xA,xZ]
  refine callP q lL ?_
  simp -dsimp(disch:=first|exact om|fail)only[go_sem,simprocAttr,xE,xN,xC,xP,xA,xZ]
  refine callP (Q2D n true n.natAbs (by unfold sgn; simp; omega)) lL ?_
  simp -dsimp(disch:=first|exact om|fail)only[go_sem,simprocAttr,xE,xN,xC,xP,xA,xZ]
 ·have e : ((n.natAbs : Nat) : Int) = n:=by omega
  have q:=X6F n.natAbs (by omega)
  rw [e] at q
  simp -dsimp(disch:=first|exact om|fail)only[go_sem,simprocAttr,xE,xN,xC,xP,xA,xZ]
  refine ⟨_,rfl, ?_⟩
  simp -dsimp(disch:=first|exact om|fail)only[go_sem,simprocAttr,xE,xN,xC,xP,xA,xZ]
  refine callP q lL ?_
  simp -dsimp(disch:=first|exact om|fail)only[go_sem,simprocAttr,xE,xN,xC,xP,xA,xZ]
  refine callP (Q2D n false n.natAbs (by unfold sgn; simp; omega)) lL ?_
  simp -dsimp(disch:=first|exact om|fail)only[go_sem,simprocAttr,xE,xN,xC,xP,xA,xZ]
theorem Y1Z (n : Int) (hn : -9223372036854775807 ≤ n ∧ n ≤ 9223372036854775807) : PC PP X5f [I n] (pQ .s (FQ.ofInt n)) []:=by
 rw [Y8d (by omega)]
 refine tx Y1U X2z [] (by kernel_rfl) ?_
 simp -dsimp(disch:=first|exact om|fail)only[go_sem,simprocAttr,xE,xN,xC,xP,xA,xZ]
 refine callP (Q0W n hn) lL ?_
 simp -dsimp(disch:=first|exact om|fail)only[go_sem,simprocAttr,xE,xN,xC,xP,xA,xZ,X8F]
theorem X6g (n : Int) (hn : -9223372036854775807 ≤ n ∧ n ≤ 9223372036854775807) : PC PP Q8Y [I n] (.agg (bC .s (zb n) (lim n.natAbs))) []:=by
 have hl:=Y6q (show n.natAbs ≤ 18446744073709551615 by omega)
 refine tx X7u Q6M [] (by kernel_rfl) ?_
 by_cases h : n < 0
 ·have q:=X4B n.natAbs (by omega)
  rw [show ((n.natAbs : Nat) : Int) = -n by omega] at q
  simp -dsimp(disch:=first|exact om|fail)only[go_sem,simprocAttr,xE,xN,xC,xP,xA,xZ]
  refine callP q lL ?_
  simp -dsimp(disch:=first|exact om|fail)only[go_sem,simprocAttr,xE,xN,xC,xP,xA,xZ]
  refine callP (Q1D n true n.natAbs .s fls (by unfold sgn; simp; omega) (by omega)) lL ?_
  simp -dsimp(disch:=first|exact om|fail)only[go_sem,simprocAttr,xE,xN,xC,xP,xA,xZ]
 ·have q:=X4B n.natAbs (by omega)
  rw [show ((n.natAbs : Nat) : Int) = n by omega] at q
  simp -dsimp(disch:=first|exact om|fail)only[go_sem,simprocAttr,xE,xN,xC,xP,xA,xZ]
  refine callP q lL ?_
  simp -dsimp(disch:=first|exact om|fail)only[go_sem,simprocAttr,xE,xN,xC,xP,xA,xZ]
  refine callP (Q1D n false n.natAbs .s fls (by unfold sgn; simp; omega) (by omega)) lL ?_
  simp -dsimp(disch:=first|exact om|fail)only[go_sem,simprocAttr,xE,xN,xC,xP,xA,xZ]
theorem Q0y (n : Int) (hn : -9223372036854775807 ≤ n ∧ n ≤ 9223372036854775807) : PC PP Q5I [I n] (rV .s (qd (FQ.ofInt n))) []:=by
 rw [Y8b (by omega)]
 refine tx X4t Q4x [] (by kernel_rfl) ?_
 simp -dsimp(disch:=first|exact om|fail)only[go_sem,simprocAttr,xE,xN,xC,xP,xA,xZ]
 refine callP (X6g n hn) lL ?_
 simp -dsimp(disch:=first|exact om|fail)only[go_sem,simprocAttr,xE,xN,xC,xP,xA,xZ,X8F]
theorem X7J (f : Fl) (hf : f ≠ .u) (r : RD) (hr : r.small) : PC PP Q5a [rV f r] (I (sgZ (rdq r).num)) []:=by
 refine tx X8r Q8e [] (by kernel_rfl) ?_
 simp -dsimp(disch:=first|exact om|fail)only[go_sem,simprocAttr,xE,xN,xC,xP,xA,xZ]
 refine callP (Q7F f hf r hr) lL ?_
 cases h1 : r.ok
 ·rw [X9z h1,show sgZ FQ.bad.num = 0 from rfl]
  simp -dsimp(disch:=first|exact om|fail)only[go_sem,simprocAttr,xE,xN,xC,xP,xA,xZ]
 ·obtain ⟨x,rfl,_⟩:=ok_qd h1
  rw [X1Z]
  by_cases h0 : x.num = 0
  ·have l0 : lim x.num.natAbs = []:=by rw [h0]; exact Q0j
   rw [show sgZ x.num = 0 by rw [h0]; rfl]
   simp -dsimp(disch:=first|exact om|fail)only[go_sem,simprocAttr,xE,xN,xC,xP,xA,xZ,show (qd x).mag = lim x.num.natAbs from rfl,l0]
  ·have hl:=Q0E.1 (show 0 < x.num.natAbs by omega)
   by_cases h2 : x.num < 0
   ·have e : zb x.num = true:=decide_eq_true h2
    rw [show sgZ x.num = -1 by unfold sgZ; rw [if_neg h0,if_pos h2]]
    simp -dsimp(disch:=first|exact om|fail)only[go_sem,simprocAttr,xE,xN,xC,xP,xA,xZ,show (qd x).mag = lim x.num.natAbs from rfl,show (qd x).neg = zb x.num from rfl,e]
   ·have e : zb x.num = false:=decide_eq_false h2
    rw [show sgZ x.num = 1 by unfold sgZ; rw [if_neg h0,if_neg h2]]
    simp -dsimp(disch:=first|exact om|fail)only[go_sem,simprocAttr,xE,xN,xC,xP,xA,xZ,show (qd x).mag = lim x.num.natAbs from rfl,show (qd x).neg = zb x.num from rfl,e]
theorem Y8o (f g : Fl) (hf : f ≠ .u) (hg : g ≠ .u) (x y : Int) (hx : (lim x.natAbs).length ≤ 1000000) (hy : (lim y.natAbs).length ≤ 1000000) : PC PP X3y [zV f x,zV g y] (I (cmpZ x y)) []:=by
 refine tx Y0u X0n [] (by kernel_rfl) ?_
 cases h1 : zb x <;> cases h2 : zb y
 ·rw [Y7h h1 h2]
  simp -dsimp(disch:=first|exact om|fail)only[go_sem,simprocAttr,xE,xN,xC,xP,xA,xZ,h1,h2]
  refine callP (Q9r f g hf hg x.natAbs y.natAbs (by omega) (by omega)) lL ?_
  simp -dsimp(disch:=first|exact om|fail)only[go_sem,simprocAttr,xE,xN,xC,xP,xA,xZ]
 ·rw [Y7i h1 h2]
  simp -dsimp(disch:=first|exact om|fail)only[go_sem,simprocAttr,xE,xN,xC,xP,xA,xZ,h1,h2]
 ·rw [Y7j h1 h2]
  simp -dsimp(disch:=first|exact om|fail)only[go_sem,simprocAttr,xE,xN,xC,xP,xA,xZ,h1,h2]
 ·rw [Y7k h1 h2]
  simp -dsimp(disch:=first|exact om|fail)only[go_sem,simprocAttr,xE,xN,xC,xP,xA,xZ,h1,h2]
  refine callP (Q9r g f hg hf y.natAbs x.natAbs (by omega) (by omega)) lL ?_
  simp -dsimp(disch:=first|exact om|fail)only[go_sem,simprocAttr,xE,xN,xC,xP,xA,xZ]
def FQ.cmp (x y : FQ) : Int:=cmpZ (x.num * y.den) (y.num * x.den)
theorem Y3K (f g : Fl) (hf : f ≠ .u) (hg : g ≠ .u) (x y : FQ) : PC PP X3w [rV f (qd x),rV g (qd y)] (I (x.cmp y)) []:=by
 refine tx Y0s X0l [] (by kernel_rfl) ?_
 have h1:=x.num_le
 have h2:=x.den_le
 have h3:=y.num_le
 have h4:=y.den_le
 have e1 : ∀ z,qd z = ⟨zb z.num,lim z.num.natAbs,lim z.den⟩:=fun _=>rfl
 rw [e1 x,e1 y]
 have m1:=Q5U h1 h4
 have m2:=Q5U h3 h2
 simp -dsimp(disch:=first|exact om|fail)only[go_sem,simprocAttr,xE,xN,xC,xP,xA,xZ]
 refine callP (Q2b f g hf hg x.num.natAbs y.den (by omega) (by omega)) lL ?_
 simp -dsimp(disch:=first|exact om|fail)only[go_sem,simprocAttr,xE,xN,xC,xP,xA,xZ]
 refine callP (Q1D (x.num * y.den) (zb x.num) (x.num.natAbs * y.den) .s fls (by rw [X1V,Q1p]) (by omega)) lL ?_
 simp -dsimp(disch:=first|exact om|fail)only[go_sem,simprocAttr,xE,xN,xC,xP,xA,xZ]
 refine callP (Q2b g f hg hf y.num.natAbs x.den (by omega) (by omega)) lL ?_
 simp -dsimp(disch:=first|exact om|fail)only[go_sem,simprocAttr,xE,xN,xC,xP,xA,xZ]
 refine callP (Q1D (y.num * x.den) (zb y.num) (y.num.natAbs * x.den) .s fls (by rw [X1V,Q1p]) (by omega)) lL ?_
 simp -dsimp(disch:=first|exact om|fail)only[go_sem,simprocAttr,xE,xN,xC,xP,xA,xZ]
 refine callP (Y8o .s .s fls fls (x.num * y.den) (y.num * x.den) (by rw [← X1t]; omega) (by rw [← X1t]; omega)) lL ?_
 simp -dsimp(disch:=first|exact om|fail)only[go_sem,simprocAttr,xE,xN,xC,xP,xA,xZ]
 rfl
theorem Q5S (x : FQ) : (qd x).small:=⟨by have:=x.num_le; show (lim x.num.natAbs).length ≤ _; omega,by have:=x.den_le; show (lim x.den).length ≤ _; omega⟩
theorem qd_sz (x : FQ) : (qd x).sz ≤ 48:=by
 have h1:=x.num_le
 have h2:=x.den_le
 show (lim x.num.natAbs).length + (lim x.den).length ≤ 48
 omega
def qs (f : Fl) (l : List FQ) : List V:=l.map (pQ f)
@[go_sem] theorem X6t {f : Fl} {l : List FQ} : (qs f l).length = l.length:=by simp [qs]
theorem Y5I {f : Fl} {l : List FQ} {i : Nat} : (qs f l).take i = qs f (l.take i):=by simp [qs]
theorem Y5J {f : Fl} {l : List FQ} {i : Nat} : (qs f l).drop i = qs f (l.drop i):=by simp [qs]
theorem Z2N {f : Fl} {l : List FQ} {c : V} (h : c ∈ qs f l) : ∃ x,c = pQ f x:=by
 obtain ⟨x,_,rfl⟩:=List.mem_map.1 h; exact ⟨x,rfl⟩
theorem Y5K {f : Fl} {l : List FQ} {p : V → Prop} (h : ∀ x,p (pQ f x)) : ∀ c ∈ qs f l,p c:=by
 intro c hc; obtain ⟨x,rfl⟩:=Z2N hc; exact h x
@[go_sem] theorem Y9J {f : Fl} {l : List FQ} : (∀ c ∈ qs f l,c.flat) = True:=eq_true (Y5K fun _=>of_eq_true Z0k)
@[go_sem] theorem qs_nu {f : Fl} {l : List FQ} (hf : f ≠ .u) : (∀ c ∈ qs f l,c.nu) = True:=eq_true (Y5K fun _=>of_eq_true (nu_pQ hf))
@[go_sem] theorem Z0W {f : Fl} {l : List FQ} {i n : Nat} (hf : f ≠ .u) : (∀ c ∈ ((qs f l).drop i).take n,c.nu) = True:=by
 rw [Y5J,Y5I]; exact qs_nu hf
@[go_sem] theorem Z9V {f : Fl} {l : List FQ} {i : Nat} (h : OM (i < l.length)) : ((qs f l).drop i)[0]? = some (pQ f (l.getD i FQ.bad)):=by
 have h : i < l.length:=h
 simp [qs,List.getElem?_drop,h]
@[go_sem] theorem Z9U {f : Fl} {l : List FQ} {i : Nat} {x : FQ} (h : OM (i < l.length)) : (qs f l).take i ++ [pQ f x] ++ (qs f l).drop (i + 1) = qs f (l.set i x):=by
 have h : i < l.length:=h
 rw [Y5I,Y5J,show [pQ f x] = qs f [x] from rfl]
 simp only [qs,← List.map_append]
 congr 1
 rw [List.append_assoc,List.singleton_append]
 exact (List.set_eq_take_append_cons_drop ..).symm ▸ by rw [if_pos h]
theorem Z2M {f : Fl} (n : Nat) : (List.replicate n [V.lit (.pointer none)]).flatten = qs f (List.replicate n FQ.bad):=by
 induction n with
 | zero=>rfl
 | succ n ih=>rw [List.replicate_succ,List.flatten_cons,ih,List.replicate_succ]; rfl
@[go_sem] theorem Y7Y {f : Fl} {l : List RD} {i : Nat} (h : OM (i < l.length)) : ((rsC f l).drop (i * 3)).take 3 = rdC f (l.getD i RD.zero):=by
 have h : i < l.length:=h
 rw [Y2g h]
 simp [h]
theorem Z2D {f : Fl} {l : List RD} {r : RD} : rsC f l ++ [Bo r.neg,sI f r.mag,sI f r.den] = rsC f (l ++ [r]):=by
 rw [Q3D]; rfl
theorem X6K {l : List FQ} {i : Nat} (h : OM (i < l.length)) : (l.map qd).getD i RD.zero = qd (l.getD i FQ.bad):=by
 have h : i < l.length:=h
 simp [h]
attribute [go_sem] List.length_map List.length_set X6K
@[go_sem] theorem Z4X {H : List Ob} {js : List (Option Nat)} {bk : Bool} {l : List FQ} : RnL H js bk (qs .s l) (qs .s l) [] = True :=
 eq_true (RnL.same (of_eq_true Y9J) (fun _=>Y5K fun x=>by rcases Q5T .s x with h | ⟨r,h⟩ <;> rw [h] <;> trivial))
theorem smallL.getD {l : List RD} (h : smallL l) {i : Nat} (hi : i < l.length) : (l.getD i RD.zero).small:=by
 rw [List.getD_eq_getElem?_getD,List.getElem?_eq_getElem hi,Option.getD_some]
 exact h.2 _ (List.getElem_mem hi)
def fillQ (l : List FQ) (k : Nat) : List FQ:=l.take k ++ List.replicate (l.length - k) FQ.bad
@[go_sem] theorem Y1D {l : List FQ} {k : Nat} : (fillQ l k).length = min k l.length + (l.length - k):=by simp [fillQ]
theorem Y4I {l : List FQ} : fillQ l 0 = List.replicate l.length FQ.bad:=by simp [fillQ]
theorem Y4J {l : List FQ} : fillQ l l.length = l:=by simp [fillQ]
theorem Y6M {l : List FQ} {k : Nat} {x : FQ} (h : k < l.length) (e : x = l.getD k FQ.bad) : (fillQ l k).set k x = fillQ l (k + 1):=by subst e; exact X6M h
theorem Y6s {H : List Ob} {f : Fl} : ∀ {l : List FQ},LeL H f (qs .s l) (qs .s l)
 | []=>.nil
 | x :: l=>.cons _ _ _ _ (of_eq_true Z3t) Y6s
@[go_sem] theorem Y9E {H : List Ob} {js : List (Option Nat)} {bk : Bool} {l : List RD} : RnL H js bk (rsC .u l) (rsC .u l) [] = True:=eq_true (X6r (by simp))
@[go_sem] theorem Z7N {H : List Ob} {js : List (Option Nat)} {bk : Bool} {l : List RD} : RnL H js bk (rsC .s l) (rsC .s l) [] = True:=eq_true (X6r (by simp))
@[go_sem] theorem Z7H {f : Fl} : rsC f [] = []:=(rfl)
theorem Z2C {f : Fl} {l : List RD} {i : Nat} (h : OM (i < l.length)) : (rsC f l).drop (i * 3) = Bo (l.getD i RD.zero).neg :: sI f (l.getD i RD.zero).mag :: sI f (l.getD i RD.zero).den :: rsC f (l.drop (i + 1)):=by
 have h : i < l.length:=h
 rw [rs_at h]; simp [h]
attribute [go_sem] Z2C
theorem preT {α : Type} {X Y : List α} {n : Nat} (h : OM (X.length = n)) : (X ++ Y).take n = X:=by
 have h : X.length = n:=h
 subst h; simp
theorem preD {α : Type} {X Y : List α} {n : Nat} (h : OM (X.length = n)) : (X ++ Y).drop n = Y:=by
 have h : X.length = n:=h
 subst h; simp
theorem preD1 {α : Type} {X Y : List α} {x : α} {n : Nat} (h : OM (X.length + 1 = n)) : (X ++ x :: Y).drop n = Y:=by
 have h : X.length + 1 = n:=h
 subst h; simp
theorem preD2 {α : Type} {X Y : List α} {x y : α} {n : Nat} (h : OM (X.length + 2 = n)) : (X ++ x :: y :: Y).drop n = Y:=by
 have h : X.length + 2 = n:=h
 subst h; simp
def markRS (r : RD) (k : Int) : RD:=⟨decide (k % 3 = 0),marks (k + 1) r.mag.length,marks (k + 1 + r.mag.length) r.den.length⟩
def markS : List RD → Int → List RD
 | [],_=>[]
 | r :: l,k=>markRS r k :: markS l (k + 1 + r.sz)
theorem Q7D : szL [] = 0:=rfl
theorem Q3y (r : RD) (l : List RD) : szL (r :: l) = 1 + r.sz + szL l:=by unfold szL; simp only [List.length_cons,szS]; omega
theorem Q9k (a b : List RD) : szL (a ++ b) = szL a + szL b:=by
 induction a with
 | nil=>simp [Q7D]
 | cons r l ih=>rw [List.cons_append,Q3y,Q3y,ih]; omega
theorem Y1m (a b : List RD) (k : Int) : markS (a ++ b) k = markS a k ++ markS b (k + szL a):=by
 induction a generalizing k with
 | nil=>simp [markS,Q7D]
 | cons r l ih =>
  rw [List.cons_append,markS,markS,ih,Q3y,List.cons_append]
  congr 3
  omega
theorem Q2J (l : List RD) (k : Int) : (markS l k).length = l.length:=by
 induction l generalizing k with
 | nil=>rfl
 | cons r l ih=>rw [markS,List.length_cons,ih,List.length_cons]
theorem Y9v {α : Type} {X Y : List α} {a b c v : α} : (X ++ a :: b :: c :: Y).set (X.length + 1) v = X ++ a :: v :: c :: Y:=by
 rw [List.set_append_right _ _ (by omega),show X.length + 1 - X.length = 1 by omega]; rfl
theorem Y9u {α : Type} {X Y : List α} {a b c v : α} : (X ++ a :: b :: c :: Y).set (X.length + 2) v = X ++ a :: b :: v :: Y:=by
 rw [List.set_append_right _ _ (by omega),show X.length + 2 - X.length = 2 by omega]; rfl
theorem openRD {n0 : Nat} {tm : List (Nat × V)} {X Y : List V} {b : Bool} {m d : List Int} {ty : TypeId} :
  StI n0 ⟨tm,[⟨.own,ty,X ++ Bo b :: sI .u m :: sI .u d :: Y⟩]⟩ ⟨tm,[⟨.own,ty,X ++ Bo b :: .rsl 1 1 0 m.length :: .rsl 2 1 0 d.length :: Y⟩,⟨.own,T_int,iC m⟩,⟨.own,T_int,iC d⟩]⟩:=by
 have h1:=StI.open (n0:=n0) (tm:=tm) (H:=[⟨.own,ty,X ++ Bo b :: sI .u m :: sI .u d :: Y⟩]) 0 (X.length + 1) (ty:=ty) (cs:=X ++ Bo b :: sI .u m :: sI .u d :: Y) (cs0:=iC m) (sz:=1) (n:=m.length) rfl (by simp) T_int
 have h2:=StI.open (n0:=n0) (tm:=tm) (H:=[⟨.own,ty,X ++ Bo b :: .rsl 1 1 0 m.length :: sI .u d :: Y⟩,⟨.own,T_int,iC m⟩]) 0 (X.length + 2) (ty:=ty) (cs:=X ++ Bo b :: .rsl 1 1 0 m.length :: sI .u d :: Y) (cs0:=iC d) (sz:=1) (n:=d.length) rfl (by simp) T_int
 rw [Y9v] at h1
 rw [Y9u] at h2
 exact h1.trans h2
theorem Y4w (l : List RD) (k : Int) (hl : smallL l) (hs : szL l ≤ 100000000) (hk : 0 ≤ k ∧ k ≤ 100000000) : GC PP Q8Z [.rsl 0 3 0 l.length,I k] [⟨.own,Q0t,rsC .u l⟩] (I (k + szL l)) [⟨.own,Q0t,rsC .u (markS l k)⟩]:=by
 have hl1:=hl.1
 refine txg X7v Q6N 1 [] [6] [6,7] rfl (by kernel_rfl) ?_
 simp -dsimp(disch:=first|exact om|fail)only[go_sem,simprocAttr,xE,xN,xC,xP,xA,xZ]
 refine loopJ (fun i : Nat=>i ≤ l.length) (fun i=>⟨[(0,.rsl 0 3 0 l.length),(1,I (k + szL (l.take i))),(5,I i)],[⟨.own,Q0t,rsC .u (markS (l.take i) k ++ l.drop i)⟩]⟩) (fun i=>l.length - i) 0 (by omega) ?_ ?_
 ·exact StI.ren [some 0] [[]] lE (by decide) (by simp -dsimp(disch:=first|exact om|fail)only[go_sem,simprocAttr,xE,xN,xC,xP,xA,xZ,markS,List.nil_append]) (by simp -dsimp(disch:=first|exact om|fail)only[go_sem,simprocAttr,xE,xN,xC,xP,xA,xZ,Q7D])
 intro i hi
 by_cases h : i < l.length
 ·have hsz : szL (l.take i) + szL (l.drop i) = szL l:=by rw [← Q9k,List.take_append_drop]
  have hd : l.drop i = l.getD i RD.zero :: l.drop (i + 1):=by rw [List.drop_eq_getElem_cons h]; simp [h]
  have hsm:=hl.getD h
  rw [hd,Q3y] at hsz
  rw [hd,Q3D]
  have hX : (rsC .u (markS (l.take i) k)).length = i * 3:=by rw [Q1b,Q2J,List.length_take]; omega
  have eS : markS (l.take (i + 1)) k = markS (l.take i) k ++ [markRS (l.getD i RD.zero) (k + szL (l.take i))]:=by
   rw [List.take_succ_eq_append_getElem h,Y1m]
   simp [markS,h]
  have eZ : szL (l.take (i + 1)) = szL (l.take i) + 1 + (l.getD i RD.zero).sz:=by
   rw [List.take_succ_eq_append_getElem h,Q9k,Q3y,Q7D]; simp [h]; omega
  rw [show rsC .u (l.getD i RD.zero :: l.drop (i + 1)) = Bo (l.getD i RD.zero).neg :: sI .u (l.getD i RD.zero).mag :: sI .u (l.getD i RD.zero).den :: rsC .u (l.drop (i + 1)) from rfl]
  generalize hr : l.getD i RD.zero = r at *
  obtain ⟨b,m,d⟩:=r
  obtain ⟨hm1,hm2⟩:=hsm
  simp only at hm1 hm2
  unfold RD.sz at hsz eZ
  simp only at hsz eZ
  generalize hXX : rsC .u (markS (l.take i) k) = X at *
  generalize hzz : szL (l.take i) = z at *
  simp -dsimp(disch:=first|exact om|fail)only[go_sem,simprocAttr,xE,xN,xC,xP,xA,xZ,preT,preD1,preD]
  rw [List.append_assoc]
  refine ⟨_,openRD, ?_⟩
  simp -dsimp(disch:=first|exact om|fail)only[go_sem,simprocAttr,xE,xN,xC,xP,xA,xZ,preT,preD1,preD2,preD]
  refine callG' [1] (Q2z T_int m (k + z + 1) (by omega) (by omega)) (by decide) lL lL lE lF ?_
  simp -dsimp(disch:=first|exact om|fail)only[go_sem,simprocAttr,xE,xN,xC,xP,xA,xZ,preT,preD1,preD2,preD]
  refine callG' [2] (Q2z T_int d (k + z + 1 + m.length) (by omega) (by omega)) (by decide) lL lL lE lF ?_
  simp -dsimp(disch:=first|exact om|fail)only[go_sem,simprocAttr,xE,xN,xC,xP,xA,xZ,preT,preD1,preD2,preD]
  refine ⟨i + 1,by omega,by omega,StI.ren [some 0] [[1,2]] lE (by decide) ?_ (by simp -dsimp(disch:=first|exact om|fail)only[go_sem,simprocAttr,xE,xN,xC,xP,xA,xZ,eZ])⟩
  simp -dsimp(disch:=first|exact om|fail)only[go_sem,simprocAttr,xE,xN,xC,xP,xA,xZ]
  rw [eS,Q3D,Q3D,hXX,List.append_assoc]
  have q:=fun (H : List Ob) h1 h2=>Z2F (H:=H) (js:=[some 0]) (bk:=true) (r:=markRS ⟨b,m,d⟩ (k + z)) (k1:=1) (k2:=2) (t1:=T_int) (t2:=T_int) h1 h2
  simp only [markRS,Q1t] at q
  subst hXX
  refine RnL.app (k1:=[]) (X6r (by simp)) (RnL.app (a:=[_,_,_]) (k1:=[1,2]) (k2:=[]) ?_ (X6r (by simp)))
  rw [show k + (z : Int) + 1 = k + z + 1 from rfl]
  exact q _ rfl rfl
 ·obtain rfl : i = l.length:=by omega
  rw [List.take_length,List.drop_length,List.append_nil]
  simp -dsimp(disch:=first|exact om|fail)only[go_sem,simprocAttr,xE,xN,xC,xP,xA,xZ]
  exact RtG.nothing [some 0] lE (by decide) (by simp -dsimp(disch:=first|exact om|fail)only[go_sem,simprocAttr,xE,xN,xC,xP,xA,xZ,List.map_cons,List.map_nil]) lW
theorem Y6m {l : List RD} {k : Int} {i : Nat} (h : i < l.length) : (markS l k).getD i RD.zero = markRS (l.getD i RD.zero) (k + szL (l.take i)):=by
 induction l generalizing k i with
 | nil=>simp at h
 | cons r l ih =>
  cases i with
  | zero=>simp [markS,Q7D]
  | succ i =>
   rw [markS,List.getD_cons_succ,List.getD_cons_succ,List.take_succ_cons,Q3y,ih (by simpa using h)]
   congr 1
   omega
theorem Y4F (f : Fl) (hf : f ≠ .u) (l : List RD) (k : Int) (hl : smallL l) (hs : szL l ≤ 100000000) (hk : 0 ≤ k ∧ k ≤ 100000000) : PC PP Q9b [sR f (markS l k),I k] (I (k + szL l)) []:=by
 have hl1:=hl.1
 have hml:=Q2J l k
 refine tx X7x Q6P [] (by kernel_rfl) ?_
 simp -dsimp(disch:=first|exact om|fail)only[go_sem,simprocAttr,xE,xN,xC,xP,xA,xZ]
 refine loopI (fun i : Nat=>i ≤ l.length) (fun i=>⟨[(0,sR f (markS l k)),(1,I (k + szL (l.take i))),(5,I i)],[]⟩) (fun i=>l.length - i) 0 (by omega) ?_ ?_
 ·simp -dsimp(disch:=first|exact om|fail)only[go_sem,simprocAttr,xE,xN,xC,xP,xA,xZ,Q7D]
 intro i hi
 by_cases h : i < l.length
 ·have hsz : szL (l.take i) + szL (l.drop i) = szL l:=by rw [← Q9k,List.take_append_drop]
  have hd : l.drop i = l.getD i RD.zero :: l.drop (i + 1):=by rw [List.drop_eq_getElem_cons h]; simp [h]
  have hsm:=hl.getD h
  rw [hd,Q3y] at hsz
  have eZ : szL (l.take (i + 1)) = szL (l.take i) + 1 + (l.getD i RD.zero).sz:=by
   rw [List.take_succ_eq_append_getElem h,Q9k,Q3y,Q7D]; simp [h]; omega
  have eG:=Y6m (l:=l) (k:=k) h
  generalize hr : l.getD i RD.zero = r at *
  obtain ⟨b,m,d⟩:=r
  obtain ⟨hm1,hm2⟩:=hsm
  simp only at hm1 hm2
  unfold RD.sz at hsz eZ
  simp only at hsz eZ
  generalize hzz : szL (l.take i) = z at *
  simp -dsimp(disch:=first|exact om|fail)only[go_sem,simprocAttr,xE,xN,xC,xP,xA,xZ,eG,markRS,bne_self_eq_false]
  have q1:=Q9s f hf (marks (k + z + 1) m.length) (k + z + 1) (by rw [Q1t]; omega) (by omega)
  rw [X1x] at q1
  refine callP q1 lL ?_
  simp -dsimp(disch:=first|exact om|fail)only[go_sem,simprocAttr,xE,xN,xC,xP,xA,xZ,eG,markRS]
  have q2:=Q9s f hf (marks (k + z + 1 + m.length) d.length) (k + z + 1 + m.length) (by rw [Q1t]; omega) (by omega)
  rw [X1x] at q2
  refine callP q2 lL ?_
  simp -dsimp(disch:=first|exact om|fail)only[go_sem,simprocAttr,xE,xN,xC,xP,xA,xZ,eG,markRS]
  exact ⟨i + 1,by omega,by omega,by rw [eZ]; omega,by omega⟩
 ·obtain rfl : i = l.length:=by omega
  rw [List.take_length]
  simp -dsimp(disch:=first|exact om|fail)only[go_sem,simprocAttr,xE,xN,xC,xP,xA,xZ]
structure MD where
 rows : Int
 cols : Int
 cells : List RD
deriving DecidableEq
theorem Y5L {l : List FQ} (h : l.length ≤ 1000) : smallL (l.map qd) ∧ szL (l.map qd) ≤ 100000:=by
 constructor
 ·refine ⟨by rw [List.length_map]; omega,fun r hr=>?_⟩
  obtain ⟨x,_,rfl⟩:=List.mem_map.1 hr
  exact Q5S x
 ·have key : ∀ m : List FQ,szL (m.map qd) ≤ 49 * m.length:=by
   intro m
   induction m with
   | nil=>simp [Q7D]
   | cons x m ih =>
    rw [List.map_cons,Q3y,List.length_cons]
    have:=qd_sz x
    omega
  have:=key l
  omega
end Go.Proofs.YtchlpclgkhggeaaGreat