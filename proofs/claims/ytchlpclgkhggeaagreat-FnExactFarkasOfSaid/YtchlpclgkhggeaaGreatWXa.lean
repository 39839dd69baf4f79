/- part of the proof -/
import Derived.Test.YtchlpclgkhggeaaGreatWIb
namespace Go.Proofs.YtchlpclgkhggeaaGreat
open Go Go.RowKit
set_option maxRecDepth 100000
set_option maxHeartbeats 1600000
set_option linter.unusedVariables false
set_option linter.unusedSimpArgs false
@[go_sem] theorem J2v : (false != true) = true:=(rfl)
@[go_sem] theorem J2u : (true != false) = true:=(rfl)
@[go_sem] theorem J2w : (false != false) = false:=(rfl)
@[go_sem] theorem J2t : (true != true) = false:=(rfl)
def cmpZ (a b : Int) : Int:=if a < b then -1 else if a = b then 0 else 1
def sgZ (a : Int) : Int:=if a = 0 then 0 else if a < 0 then -1 else 1
theorem Y8D {x y : Int} (hx : zb x = false) (hy : zb y = false) : cmpZ x y = cmpN x.natAbs y.natAbs:=by
 unfold zb at hx hy
 have hx:=of_decide_eq_false hx
 have hy:=of_decide_eq_false hy
 unfold cmpZ cmpN
 repeat' split
 all_goals omega
theorem Y8G {x y : Int} (hx : zb x = true) (hy : zb y = true) : cmpZ x y = cmpN y.natAbs x.natAbs:=by
 unfold zb at hx hy
 have hx:=of_decide_eq_true hx
 have hy:=of_decide_eq_true hy
 unfold cmpZ cmpN
 repeat' split
 all_goals omega
theorem Y8F {x y : Int} (hx : zb x = true) (hy : zb y = false) : cmpZ x y = -1:=by
 unfold zb at hx hy
 have hx:=of_decide_eq_true hx
 have hy:=of_decide_eq_false hy
 unfold cmpZ
 rw [if_pos (by omega)]
theorem Y8E {x y : Int} (hx : zb x = false) (hy : zb y = true) : cmpZ x y = 1:=by
 unfold zb at hx hy
 have hx:=of_decide_eq_false hx
 have hy:=of_decide_eq_true hy
 unfold cmpZ
 rw [if_neg (by omega),if_neg (by omega)]
theorem Q8W (f g : Fl) (hf : f ≠ .u) (hg : g ≠ .u) (x y : Int) (hx : (lim x.natAbs).length ≤ 1000000) (hy : (lim y.natAbs).length ≤ 1000000) : PC PP Q3p [zV f x,zV g y] (I (cmpZ x y)) []:=by
 refine tx Q9v Q2G [] (by kernel_rfl) ?_
 cases h1 : zb x <;> cases h2 : zb y
 ·rw [Y8D h1 h2]
  simp -dsimp(disch:=first|exact om|fail)only[go_sem,simprocAttr,xE,xN,xC,xP,xA,xZ,h1,h2]
  refine callP (Q5X f g hf hg x.natAbs y.natAbs (by omega) (by omega)) lL ?_
  simp -dsimp(disch:=first|exact om|fail)only[go_sem,simprocAttr,xE,xN,xC,xP,xA,xZ]
 ·rw [Y8E h1 h2]
  simp -dsimp(disch:=first|exact om|fail)only[go_sem,simprocAttr,xE,xN,xC,xP,xA,xZ,h1,h2]
 ·rw [Y8F h1 h2]
  simp -dsimp(disch:=first|exact om|fail)only[go_sem,simprocAttr,xE,xN,xC,xP,xA,xZ,h1,h2]
 ·rw [Y8G h1 h2]
  simp -dsimp(disch:=first|exact om|fail)only[go_sem,simprocAttr,xE,xN,xC,xP,xA,xZ,h1,h2]
  refine callP (Q5X g f hg hf y.natAbs x.natAbs (by omega) (by omega)) lL ?_
  simp -dsimp(disch:=first|exact om|fail)only[go_sem,simprocAttr,xE,xN,xC,xP,xA,xZ]
theorem Q0u (f : Fl) (hf : f ≠ .u) (x : Int) (hx : (lim x.natAbs).length ≤ 1000000) : PC PP Q5o [zV f x] (I (sgZ x)) []:=by
  refine tx X4h Q4t [] (by kernel_rfl) ?_
  by_cases h0 : x = 0
  · subst h0
    rw [show sgZ 0 = 0 from rfl]
    have l0 : lim (Int.natAbs 0) = []:=Q0k
    simp -dsimp(disch:=first|exact om|fail)only[go_sem,↓reduceIte,Nat.reduceEqDiff,Nat.reduceAdd,Nat.reduceSub,Nat.reduceMul,Nat.reduceLT,Nat.reduceLeDiff,reduceCtorEq,xE,xN,xC,xP,xA,xZ,Int.reduceToNat,l0]
  · have hl:=Q0I.1 (show 0 < x.natAbs by omega)
    by_cases h1 : x < 0
    · have e : zb x = true:=decide_eq_true h1
      rw [show sgZ x = -1 by unfold sgZ; rw [if_neg h0,if_pos h1]]
      simp -dsimp(disch:=first|exact om|fail)only[go_sem,↓reduceIte,Nat.reduceEqDiff,Nat.reduceAdd,Nat.reduceSub,Nat.reduceMul,Nat.reduceLT,Nat.reduceLeDiff,reduceCtorEq,xE,xN,xC,xP,xA,xZ,Int.reduceToNat,e]
    · have e : zb x = false:=decide_eq_false h1
      rw [show sgZ x = 1 by unfold sgZ; rw [if_neg h0,if_neg h1]]
      simp -dsimp(disch:=first|exact om|fail)only[go_sem,↓reduceIte,Nat.reduceEqDiff,Nat.reduceAdd,Nat.reduceSub,Nat.reduceMul,Nat.reduceLT,Nat.reduceLeDiff,reduceCtorEq,xE,xN,xC,xP,xA,xZ,Int.reduceToNat,e]
theorem Y7H {n : Nat} (hn : n ≤ 18446744073709551615) : (lim n).length ≤ 3:=Q0d.2 (by
 have : (1000000000 : Int) ^ 3 = 1000000000000000000000000000:=by decide
 omega)
theorem X4V {n : Int} (hn : n.natAbs ≤ 18446744073709551615) : (FQ.ofInt n).1 = some (n : Rat):=by
 unfold FQ.ofInt FQ.fit
 have h1:=Y7H hn
 have e1 : (lim (n : Rat).num.natAbs).length ≤ 24:=by rw [Rat.num_intCast]; omega
 have e2 : (lim (n : Rat).den).length ≤ 24:=by rw [Rat.den_intCast,Q6s]; decide
 rw [dif_pos ⟨e1,e2⟩]
theorem Y7p {n : Int} (hn : n.natAbs ≤ 18446744073709551615) : (FQ.ofInt n).num = n:=by
 unfold FQ.num; rw [X4V hn]; exact Rat.num_intCast n
theorem Y7q {n : Int} (hn : n.natAbs ≤ 18446744073709551615) : (FQ.ofInt n).den = 1:=by
 unfold FQ.den; rw [X4V hn]; exact Rat.den_intCast n
theorem Y9y {f : Fl} {n : Int} (hn : n.natAbs ≤ 18446744073709551615) : pQ f (FQ.ofInt n) = .ptr f [Bo (zb n),sI f (lim n.natAbs),sI f (lim 1)]:=by
 unfold pQ
 rw [X4V hn]
 show V.ptr f [Bo (zb (n : Rat).num),sI f (lim (n : Rat).num.natAbs),sI f (lim (n : Rat).den)] = _
 rw [Rat.num_intCast,Rat.den_intCast]
theorem Y9w {n : Int} (hn : n.natAbs ≤ 18446744073709551615) : qd (FQ.ofInt n) = ⟨zb n,lim n.natAbs,lim 1⟩:=by
 unfold qd
 rw [Y7p hn,Y7q hn]
theorem Q0Y (n : Int) (hn : -9223372036854775807 ≤ n ∧ n ≤ 9223372036854775807) : PC PP X1Y [I n] (zV .s n) []:=by
 refine tx X9w Q8Q [] (by kernel_rfl) ?_
 by_cases h : n < 0
 ·have e : ((n.natAbs : Nat) : Int) = -(n + 1) + 1:=by omega
  have q:=X7F n.natAbs (by omega)
  rw [e] at q
  simp -dsimp(disch:=first|exact om|fail)only[go_sem,simprocAttr,xE,xN,xC,xP,xA,xZ]
  refine ⟨_,rfl, ?_⟩
  simp -dsimp(disch:=first|exact om|fail)only[go_sem,simprocAttr,xE,xN,xC,xP,xA,xZ]
  refine callP q lL ?_
  simp -dsimp(disch:=first|exact om|fail)only[go_sem,simprocAttr,xE,xN,xC,xP,xA,xZ]
  refine callP (Q2T n true n.natAbs (by unfold sgn; simp; omega)) lL ?_
  simp -dsimp(disch:=first|exact om|fail)only[go_sem,simprocAttr,xE,xN,xC,xP,xA,xZ]
 ·have e : ((n.natAbs : Nat) : Int) = n:=by omega
  have q:=X7F n.natAbs (by omega)
  rw [e] at q
  simp -dsimp(disch:=first|exact om|fail)only[go_sem,simprocAttr,xE,xN,xC,xP,xA,xZ]
  refine ⟨_,rfl, ?_⟩
  simp -dsimp(disch:=first|exact om|fail)only[go_sem,simprocAttr,xE,xN,xC,xP,xA,xZ]
  refine callP q lL ?_
  simp -dsimp(disch:=first|exact om|fail)only[go_sem,simprocAttr,xE,xN,xC,xP,xA,xZ]
  refine callP (Q2T n false n.natAbs (by unfold sgn; simp; omega)) lL ?_
  simp -dsimp(disch:=first|exact om|fail)only[go_sem,simprocAttr,xE,xN,xC,xP,xA,xZ]
theorem Y3g (n : Int) (hn : -9223372036854775807 ≤ n ∧ n ≤ 9223372036854775807) : PC PP X6c [I n] (pQ .s (FQ.ofInt n)) []:=by
 rw [Y9y (by omega)]
 refine tx Y3b X3r [] (by kernel_rfl) ?_
 simp -dsimp(disch:=first|exact om|fail)only[go_sem,simprocAttr,xE,xN,xC,xP,xA,xZ]
 refine callP (Q0Y n hn) lL ?_
 simp -dsimp(disch:=first|exact om|fail)only[go_sem,simprocAttr,xE,xN,xC,xP,xA,xZ,X9G]
theorem X7j (n : Int) (hn : -9223372036854775807 ≤ n ∧ n ≤ 9223372036854775807) : PC PP Q9H [I n] (.agg (bC .s (zb n) (lim n.natAbs))) []:=by
 have hl:=Y7H (show n.natAbs ≤ 18446744073709551615 by omega)
 refine tx X8x Q7p [] (by kernel_rfl) ?_
 by_cases h : n < 0
 ·have q:=X5v n.natAbs (by omega)
  rw [show ((n.natAbs : Nat) : Int) = -n by omega] at q
  simp -dsimp(disch:=first|exact om|fail)only[go_sem,simprocAttr,xE,xN,xC,xP,xA,xZ]
  refine callP q lL ?_
  simp -dsimp(disch:=first|exact om|fail)only[go_sem,simprocAttr,xE,xN,xC,xP,xA,xZ]
  refine callP (Q1M n true n.natAbs .s fls (by unfold sgn; simp; omega) (by omega)) lL ?_
  simp -dsimp(disch:=first|exact om|fail)only[go_sem,simprocAttr,xE,xN,xC,xP,xA,xZ]
 ·have q:=X5v n.natAbs (by omega)
  rw [show ((n.natAbs : Nat) : Int) = n by omega] at q
  simp -dsimp(disch:=first|exact om|fail)only[go_sem,simprocAttr,xE,xN,xC,xP,xA,xZ]
  refine callP q lL ?_
  simp -dsimp(disch:=first|exact om|fail)only[go_sem,simprocAttr,xE,xN,xC,xP,xA,xZ]
  refine callP (Q1M n false n.natAbs .s fls (by unfold sgn; simp; omega) (by omega)) lL ?_
  simp -dsimp(disch:=first|exact om|fail)only[go_sem,simprocAttr,xE,xN,xC,xP,xA,xZ]
theorem Q0C (n : Int) (hn : -9223372036854775807 ≤ n ∧ n ≤ 9223372036854775807) : PC PP Q6h [I n] (rV .s (qd (FQ.ofInt n))) []:=by
 rw [Y9w (by omega)]
 refine tx X5p Q4Y [] (by kernel_rfl) ?_
 simp -dsimp(disch:=first|exact om|fail)only[go_sem,simprocAttr,xE,xN,xC,xP,xA,xZ]
 refine callP (X7j n hn) lL ?_
 simp -dsimp(disch:=first|exact om|fail)only[go_sem,simprocAttr,xE,xN,xC,xP,xA,xZ,X9G]
theorem X8L (f : Fl) (hf : f ≠ .u) (r : RD) (hr : r.small) : PC PP Q5w [rV f r] (I (sgZ (rdq r).num)) []:=by
 refine tx X9u Q8N [] (by kernel_rfl) ?_
 simp -dsimp(disch:=first|exact om|fail)only[go_sem,simprocAttr,xE,xN,xC,xP,xA,xZ]
 refine callP (Q2W f hf r hr) lL ?_
 cases h1 : r.ok
 ·rw [X4U h1,show sgZ FQ.bad.num = 0 from rfl]
  simp -dsimp(disch:=first|exact om|fail)only[go_sem,simprocAttr,xE,xN,xC,xP,xA,xZ]
 ·obtain ⟨x,rfl,_⟩:=ok_qd h1
  rw [Q6J]
  by_cases h0 : x.num = 0
  ·have l0 : lim x.num.natAbs = []:=by rw [h0]; exact Q0k
   rw [show sgZ x.num = 0 by rw [h0]; rfl]
   simp -dsimp(disch:=first|exact om|fail)only[go_sem,simprocAttr,xE,xN,xC,xP,xA,xZ,show (qd x).mag = lim x.num.natAbs from rfl,l0]
  ·have hl:=Q0I.1 (show 0 < x.num.natAbs by omega)
   by_cases h2 : x.num < 0
   ·have e : zb x.num = true:=decide_eq_true h2
    rw [show sgZ x.num = -1 by unfold sgZ; rw [if_neg h0,if_pos h2]]
    simp -dsimp(disch:=first|exact om|fail)only[go_sem,simprocAttr,xE,xN,xC,xP,xA,xZ,show (qd x).mag = lim x.num.natAbs from rfl,show (qd x).neg = zb x.num from rfl,e]
   ·have e : zb x.num = false:=decide_eq_false h2
    rw [show sgZ x.num = 1 by unfold sgZ; rw [if_neg h0,if_neg h2]]
    simp -dsimp(disch:=first|exact om|fail)only[go_sem,simprocAttr,xE,xN,xC,xP,xA,xZ,show (qd x).mag = lim x.num.natAbs from rfl,show (qd x).neg = zb x.num from rfl,e]
theorem Y9I (f g : Fl) (hf : f ≠ .u) (hg : g ≠ .u) (x y : Int) (hx : (lim x.natAbs).length ≤ 1000000) (hy : (lim y.natAbs).length ≤ 1000000) : PC PP X4q [zV f x,zV g y] (I (cmpZ x y)) []:=by
 refine tx Y1C X0Z [] (by kernel_rfl) ?_
 cases h1 : zb x <;> cases h2 : zb y
 ·rw [Y8D h1 h2]
  simp -dsimp(disch:=first|exact om|fail)only[go_sem,simprocAttr,xE,xN,xC,xP,xA,xZ,h1,h2]
  refine callP (X0b f g hf hg x.natAbs y.natAbs (by omega) (by omega)) lL ?_
  simp -dsimp(disch:=first|exact om|fail)only[go_sem,simprocAttr,xE,xN,xC,xP,xA,xZ]
 ·rw [Y8E h1 h2]
  simp -dsimp(disch:=first|exact om|fail)only[go_sem,simprocAttr,xE,xN,xC,xP,xA,xZ,h1,h2]
 ·rw [Y8F h1 h2]
  simp -dsimp(disch:=first|exact om|fail)only[go_sem,simprocAttr,xE,xN,xC,xP,xA,xZ,h1,h2]
 ·rw [Y8G h1 h2]
  simp -dsimp(disch:=first|exact om|fail)only[go_sem,simprocAttr,xE,xN,xC,xP,xA,xZ,h1,h2]
  refine callP (X0b g f hg hf y.natAbs x.natAbs (by omega) (by omega)) lL ?_
  simp -dsimp(disch:=first|exact om|fail)only[go_sem,simprocAttr,xE,xN,xC,xP,xA,xZ]
def FQ.cmp (x y : FQ) : Int:=cmpZ (x.num * y.den) (y.num * x.den)
theorem Y4S (f g : Fl) (hf : f ≠ .u) (hg : g ≠ .u) (x y : FQ) : PC PP X4o [rV f (qd x),rV g (qd y)] (I (x.cmp y)) []:=by
 refine tx Y1A X0X [] (by kernel_rfl) ?_
 have h1:=x.num_le
 have h2:=x.den_le
 have h3:=y.num_le
 have h4:=y.den_le
 have e1 : ∀ z,qd z = ⟨zb z.num,lim z.num.natAbs,lim z.den⟩:=fun _=>rfl
 rw [e1 x,e1 y]
 have m1:=Q6p h1 h4
 have m2:=Q6p h3 h2
 simp -dsimp(disch:=first|exact om|fail)only[go_sem,simprocAttr,xE,xN,xC,xP,xA,xZ]
 refine callP (Q2n f g hf hg x.num.natAbs y.den (by omega) (by omega)) lL ?_
 simp -dsimp(disch:=first|exact om|fail)only[go_sem,simprocAttr,xE,xN,xC,xP,xA,xZ]
 refine callP (Q1M (x.num * y.den) (zb x.num) (x.num.natAbs * y.den) .s fls (by rw [X2I,Q1v]) (by omega)) lL ?_
 simp -dsimp(disch:=first|exact om|fail)only[go_sem,simprocAttr,xE,xN,xC,xP,xA,xZ]
 refine callP (Q2n g f hg hf y.num.natAbs x.den (by omega) (by omega)) lL ?_
 simp -dsimp(disch:=first|exact om|fail)only[go_sem,simprocAttr,xE,xN,xC,xP,xA,xZ]
 refine callP (Q1M (y.num * x.den) (zb y.num) (y.num.natAbs * x.den) .s fls (by rw [X2I,Q1v]) (by omega)) lL ?_
 simp -dsimp(disch:=first|exact om|fail)only[go_sem,simprocAttr,xE,xN,xC,xP,xA,xZ]
 refine callP (Y9I .s .s fls fls (x.num * y.den) (y.num * x.den) (by rw [← Q6q]; omega) (by rw [← Q6q]; omega)) lL ?_
 simp -dsimp(disch:=first|exact om|fail)only[go_sem,simprocAttr,xE,xN,xC,xP,xA,xZ]
 rfl
end Go.Proofs.YtchlpclgkhggeaaGreat