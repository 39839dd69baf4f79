/- part of the proof -/
import Derived.Test.YtchlpclgkhggeaaGreatTIb
namespace Go.Proofs.YtchlpclgkhggeaaGreat
open Go Go.RowKit
set_option maxRecDepth 100000
set_option maxHeartbeats 1600000
set_option linter.unusedVariables false
set_option linter.unusedSimpArgs false
@[go_sem] theorem J2t : (false != true) = true:=(rfl)
@[go_sem] theorem J2s : (true != false) = true:=(rfl)
@[go_sem] theorem J2u : (false != false) = false:=(rfl)
@[go_sem] theorem J2r : (true != true) = false:=(rfl)
def cmpZ (a b : Int) : Int:=if a < b then -1 else if a = b then 0 else 1
def sgZ (a : Int) : Int:=if a = 0 then 0 else if a < 0 then -1 else 1
theorem Y8y {x y : Int} (hx : zb x = false) (hy : zb y = false) : cmpZ x y = cmpN x.natAbs y.natAbs:=by
 unfold zb at hx hy
 have hx:=of_decide_eq_false hx
 have hy:=of_decide_eq_false hy
 unfold cmpZ cmpN
 repeat' split
 all_goals omega
theorem Y8B {x y : Int} (hx : zb x = true) (hy : zb y = true) : cmpZ x y = cmpN y.natAbs x.natAbs:=by
 unfold zb at hx hy
 have hx:=of_decide_eq_true hx
 have hy:=of_decide_eq_true hy
 unfold cmpZ cmpN
 repeat' split
 all_goals omega
theorem Y8A {x y : Int} (hx : zb x = true) (hy : zb y = false) : cmpZ x y = -1:=by
 unfold zb at hx hy
 have hx:=of_decide_eq_true hx
 have hy:=of_decide_eq_false hy
 unfold cmpZ
 rw [if_pos (by omega)]
theorem Y8z {x y : Int} (hx : zb x = false) (hy : zb y = true) : cmpZ x y = 1:=by
 unfold zb at hx hy
 have hx:=of_decide_eq_false hx
 have hy:=of_decide_eq_true hy
 unfold cmpZ
 rw [if_neg (by omega),if_neg (by omega)]
theorem Q8P (f g : Fl) (hf : f ≠ .u) (hg : g ≠ .u) (x y : Int) (hx : (lim x.natAbs).length ≤ 1000000) (hy : (lim y.natAbs).length ≤ 1000000) : PC PP Q3k [zV f x,zV g y] (I (cmpZ x y)) []:=by
 refine tx Q9m Q2C [] (by kernel_rfl) ?_
 cases h1 : zb x <;> cases h2 : zb y
 ·rw [Y8y h1 h2]
  simp -dsimp(disch:=first|exact om|fail)only[go_sem,simprocAttr,xE,xN,xC,xP,xA,xZ,h1,h2]
  refine callP (Q5W f g hf hg x.natAbs y.natAbs (by omega) (by omega)) lL ?_
  simp -dsimp(disch:=first|exact om|fail)only[go_sem,simprocAttr,xE,xN,xC,xP,xA,xZ]
 ·rw [Y8z h1 h2]
  simp -dsimp(disch:=first|exact om|fail)only[go_sem,simprocAttr,xE,xN,xC,xP,xA,xZ,h1,h2]
 ·rw [Y8A h1 h2]
  simp -dsimp(disch:=first|exact om|fail)only[go_sem,simprocAttr,xE,xN,xC,xP,xA,xZ,h1,h2]
 ·rw [Y8B h1 h2]
  simp -dsimp(disch:=first|exact om|fail)only[go_sem,simprocAttr,xE,xN,xC,xP,xA,xZ,h1,h2]
  refine callP (Q5W g f hg hf y.natAbs x.natAbs (by omega) (by omega)) lL ?_
  simp -dsimp(disch:=first|exact om|fail)only[go_sem,simprocAttr,xE,xN,xC,xP,xA,xZ]
theorem Q0t (f : Fl) (hf : f ≠ .u) (x : Int) (hx : (lim x.natAbs).length ≤ 1000000) : PC PP Q5l [zV f x] (I (sgZ x)) []:=by
  refine tx X4d Q4l [] (by kernel_rfl) ?_
  by_cases h0 : x = 0
  · subst h0
    rw [show sgZ 0 = 0 from rfl]
    have l0 : lim (Int.natAbs 0) = []:=Q0k
    simp -dsimp(disch:=first|exact om|fail)only[go_sem,↓reduceIte,Nat.reduceEqDiff,Nat.reduceAdd,Nat.reduceSub,Nat.reduceMul,Nat.reduceLT,Nat.reduceLeDiff,reduceCtorEq,xE,xN,xC,xP,xA,xZ,Int.reduceToNat,l0]
  · have hl:=Q0H.1 (show 0 < x.natAbs by omega)
    by_cases h1 : x < 0
    · have e : zb x = true:=decide_eq_true h1
      rw [show sgZ x = -1 by unfold sgZ; rw [if_neg h0,if_pos h1]]
      simp -dsimp(disch:=first|exact om|fail)only[go_sem,↓reduceIte,Nat.reduceEqDiff,Nat.reduceAdd,Nat.reduceSub,Nat.reduceMul,Nat.reduceLT,Nat.reduceLeDiff,reduceCtorEq,xE,xN,xC,xP,xA,xZ,Int.reduceToNat,e]
    · have e : zb x = false:=decide_eq_false h1
      rw [show sgZ x = 1 by unfold sgZ; rw [if_neg h0,if_neg h1]]
      simp -dsimp(disch:=first|exact om|fail)only[go_sem,↓reduceIte,Nat.reduceEqDiff,Nat.reduceAdd,Nat.reduceSub,Nat.reduceMul,Nat.reduceLT,Nat.reduceLeDiff,reduceCtorEq,xE,xN,xC,xP,xA,xZ,Int.reduceToNat,e]
theorem Y7A {n : Nat} (hn : n ≤ 18446744073709551615) : (lim n).length ≤ 3:=Q0d.2 (by
 have : (1000000000 : Int) ^ 3 = 1000000000000000000000000000:=by decide
 omega)
theorem X4R {n : Int} (hn : n.natAbs ≤ 18446744073709551615) : (FQ.ofInt n).1 = some (n : Rat):=by
 unfold FQ.ofInt FQ.fit
 have h1:=Y7A hn
 have e1 : (lim (n : Rat).num.natAbs).length ≤ 24:=by rw [Rat.num_intCast]; omega
 have e2 : (lim (n : Rat).den).length ≤ 24:=by rw [Rat.den_intCast,Q6r]; decide
 rw [dif_pos ⟨e1,e2⟩]
theorem Y7h {n : Int} (hn : n.natAbs ≤ 18446744073709551615) : (FQ.ofInt n).num = n:=by
 unfold FQ.num; rw [X4R hn]; exact Rat.num_intCast n
theorem Y7i {n : Int} (hn : n.natAbs ≤ 18446744073709551615) : (FQ.ofInt n).den = 1:=by
 unfold FQ.den; rw [X4R hn]; exact Rat.den_intCast n
theorem Y9u {f : Fl} {n : Int} (hn : n.natAbs ≤ 18446744073709551615) : pQ f (FQ.ofInt n) = .ptr f [Bo (zb n),sI f (lim n.natAbs),sI f (lim 1)]:=by
 unfold pQ
 rw [X4R hn]
 show V.ptr f [Bo (zb (n : Rat).num),sI f (lim (n : Rat).num.natAbs),sI f (lim (n : Rat).den)] = _
 rw [Rat.num_intCast,Rat.den_intCast]
theorem Y9s {n : Int} (hn : n.natAbs ≤ 18446744073709551615) : qd (FQ.ofInt n) = ⟨zb n,lim n.natAbs,lim 1⟩:=by
 unfold qd
 rw [Y7h hn,Y7i hn]
theorem Q0Y (n : Int) (hn : -9223372036854775807 ≤ n ∧ n ≤ 9223372036854775807) : PC PP X1R [I n] (zV .s n) []:=by
 refine tx X9p Q8K [] (by kernel_rfl) ?_
 by_cases h : n < 0
 ·have e : ((n.natAbs : Nat) : Int) = -(n + 1) + 1:=by omega
  have q:=X7w n.natAbs (by omega)
  rw [e] at q
  simp -dsimp(disch:=first|exact om|fail)only[go_sem,simprocAttr,xE,xN,xC,xP,xA,xZ]
  refine ⟨_,rfl, ?_⟩
  simp -dsimp(disch:=first|exact om|fail)only[go_sem,simprocAttr,xE,xN,xC,xP,xA,xZ]
  refine callP q lL ?_
  simp -dsimp(disch:=first|exact om|fail)only[go_sem,simprocAttr,xE,xN,xC,xP,xA,xZ]
  refine callP (Q2P n true n.natAbs (by unfold sgn; simp; omega)) lL ?_
  simp -dsimp(disch:=first|exact om|fail)only[go_sem,simprocAttr,xE,xN,xC,xP,xA,xZ]
 ·have e : ((n.natAbs : Nat) : Int) = n:=by omega
  have q:=X7w n.natAbs (by omega)
  rw [e] at q
  simp -dsimp(disch:=first|exact om|fail)only[go_sem,simprocAttr,xE,xN,xC,xP,xA,xZ]
  refine ⟨_,rfl, ?_⟩
  simp -dsimp(disch:=first|exact om|fail)only[go_sem,simprocAttr,xE,xN,xC,xP,xA,xZ]
  refine callP q lL ?_
  simp -dsimp(disch:=first|exact om|fail)only[go_sem,simprocAttr,xE,xN,xC,xP,xA,xZ]
  refine callP (Q2P n false n.natAbs (by unfold sgn; simp; omega)) lL ?_
  simp -dsimp(disch:=first|exact om|fail)only[go_sem,simprocAttr,xE,xN,xC,xP,xA,xZ]
theorem Y3a (n : Int) (hn : -9223372036854775807 ≤ n ∧ n ≤ 9223372036854775807) : PC PP X5X [I n] (pQ .s (FQ.ofInt n)) []:=by
 rw [Y9u (by omega)]
 refine tx Y2V X3l [] (by kernel_rfl) ?_
 simp -dsimp(disch:=first|exact om|fail)only[go_sem,simprocAttr,xE,xN,xC,xP,xA,xZ]
 refine callP (Q0Y n hn) lL ?_
 simp -dsimp(disch:=first|exact om|fail)only[go_sem,simprocAttr,xE,xN,xC,xP,xA,xZ,X9z]
theorem X7a (n : Int) (hn : -9223372036854775807 ≤ n ∧ n ≤ 9223372036854775807) : PC PP Q9y [I n] (.agg (bC .s (zb n) (lim n.natAbs))) []:=by
 have hl:=Y7A (show n.natAbs ≤ 18446744073709551615 by omega)
 refine tx X8n Q7m [] (by kernel_rfl) ?_
 by_cases h : n < 0
 ·have q:=X5r n.natAbs (by omega)
  rw [show ((n.natAbs : Nat) : Int) = -n by omega] at q
  simp -dsimp(disch:=first|exact om|fail)only[go_sem,simprocAttr,xE,xN,xC,xP,xA,xZ]
  refine callP q lL ?_
  simp -dsimp(disch:=first|exact om|fail)only[go_sem,simprocAttr,xE,xN,xC,xP,xA,xZ]
  refine callP (Q1I n true n.natAbs .s fls (by unfold sgn; simp; omega) (by omega)) lL ?_
  simp -dsimp(disch:=first|exact om|fail)only[go_sem,simprocAttr,xE,xN,xC,xP,xA,xZ]
 ·have q:=X5r n.natAbs (by omega)
  rw [show ((n.natAbs : Nat) : Int) = n by omega] at q
  simp -dsimp(disch:=first|exact om|fail)only[go_sem,simprocAttr,xE,xN,xC,xP,xA,xZ]
  refine callP q lL ?_
  simp -dsimp(disch:=first|exact om|fail)only[go_sem,simprocAttr,xE,xN,xC,xP,xA,xZ]
  refine callP (Q1I n false n.natAbs .s fls (by unfold sgn; simp; omega) (by omega)) lL ?_
  simp -dsimp(disch:=first|exact om|fail)only[go_sem,simprocAttr,xE,xN,xC,xP,xA,xZ]
theorem Q0A (n : Int) (hn : -9223372036854775807 ≤ n ∧ n ≤ 9223372036854775807) : PC PP Q6g [I n] (rV .s (qd (FQ.ofInt n))) []:=by
 rw [Y9s (by omega)]
 refine tx X5l Q4Q [] (by kernel_rfl) ?_
 simp -dsimp(disch:=first|exact om|fail)only[go_sem,simprocAttr,xE,xN,xC,xP,xA,xZ]
 refine callP (X7a n hn) lL ?_
 simp -dsimp(disch:=first|exact om|fail)only[go_sem,simprocAttr,xE,xN,xC,xP,xA,xZ,X9z]
theorem X8C (f : Fl) (hf : f ≠ .u) (r : RD) (hr : r.small) : PC PP Q5v [rV f r] (I (sgZ (rdq r).num)) []:=by
 refine tx X9n Q8H [] (by kernel_rfl) ?_
 simp -dsimp(disch:=first|exact om|fail)only[go_sem,simprocAttr,xE,xN,xC,xP,xA,xZ]
 refine callP (Q2S f hf r hr) lL ?_
 cases h1 : r.ok
 ·rw [X4Q h1,show sgZ FQ.bad.num = 0 from rfl]
  simp -dsimp(disch:=first|exact om|fail)only[go_sem,simprocAttr,xE,xN,xC,xP,xA,xZ]
 ·obtain ⟨x,rfl,_⟩:=ok_qd h1
  rw [Q6J]
  by_cases h0 : x.num = 0
  ·have l0 : lim x.num.natAbs = []:=by rw [h0]; exact Q0k
   rw [show sgZ x.num = 0 by rw [h0]; rfl]
   simp -dsimp(disch:=first|exact om|fail)only[go_sem,simprocAttr,xE,xN,xC,xP,xA,xZ,show (qd x).mag = lim x.num.natAbs from rfl,l0]
  ·have hl:=Q0H.1 (show 0 < x.num.natAbs by omega)
   by_cases h2 : x.num < 0
   ·have e : zb x.num = true:=decide_eq_true h2
    rw [show sgZ x.num = -1 by unfold sgZ; rw [if_neg h0,if_pos h2]]
    simp -dsimp(disch:=first|exact om|fail)only[go_sem,simprocAttr,xE,xN,xC,xP,xA,xZ,show (qd x).mag = lim x.num.natAbs from rfl,show (qd x).neg = zb x.num from rfl,e]
   ·have e : zb x.num = false:=decide_eq_false h2
    rw [show sgZ x.num = 1 by unfold sgZ; rw [if_neg h0,if_neg h2]]
    simp -dsimp(disch:=first|exact om|fail)only[go_sem,simprocAttr,xE,xN,xC,xP,xA,xZ,show (qd x).mag = lim x.num.natAbs from rfl,show (qd x).neg = zb x.num from rfl,e]
theorem Y9E (f g : Fl) (hf : f ≠ .u) (hg : g ≠ .u) (x y : Int) (hx : (lim x.natAbs).length ≤ 1000000) (hy : (lim y.natAbs).length ≤ 1000000) : PC PP X4m [zV f x,zV g y] (I (cmpZ x y)) []:=by
 refine tx Y1x X0Q [] (by kernel_rfl) ?_
 cases h1 : zb x <;> cases h2 : zb y
 ·rw [Y8y h1 h2]
  simp -dsimp(disch:=first|exact om|fail)only[go_sem,simprocAttr,xE,xN,xC,xP,xA,xZ,h1,h2]
  refine callP (Q9S f g hf hg x.natAbs y.natAbs (by omega) (by omega)) lL ?_
  simp -dsimp(disch:=first|exact om|fail)only[go_sem,simprocAttr,xE,xN,xC,xP,xA,xZ]
 ·rw [Y8z h1 h2]
  simp -dsimp(disch:=first|exact om|fail)only[go_sem,simprocAttr,xE,xN,xC,xP,xA,xZ,h1,h2]
 ·rw [Y8A h1 h2]
  simp -dsimp(disch:=first|exact om|fail)only[go_sem,simprocAttr,xE,xN,xC,xP,xA,xZ,h1,h2]
 ·rw [Y8B h1 h2]
  simp -dsimp(disch:=first|exact om|fail)only[go_sem,simprocAttr,xE,xN,xC,xP,xA,xZ,h1,h2]
  refine callP (Q9S g f hg hf y.natAbs x.natAbs (by omega) (by omega)) lL ?_
  simp -dsimp(disch:=first|exact om|fail)only[go_sem,simprocAttr,xE,xN,xC,xP,xA,xZ]
def FQ.cmp (x y : FQ) : Int:=cmpZ (x.num * y.den) (y.num * x.den)
theorem Y4L (f g : Fl) (hf : f ≠ .u) (hg : g ≠ .u) (x y : FQ) : PC PP X4k [rV f (qd x),rV g (qd y)] (I (x.cmp y)) []:=by
 refine tx Y1v X0O [] (by kernel_rfl) ?_
 have h1:=x.num_le
 have h2:=x.den_le
 have h3:=y.num_le
 have h4:=y.den_le
 have e1 : ∀ z,qd z = ⟨zb z.num,lim z.num.natAbs,lim z.den⟩:=fun _=>rfl
 rw [e1 x,e1 y]
 have m1:=Q6o h1 h4
 have m2:=Q6o h3 h2
 simp -dsimp(disch:=first|exact om|fail)only[go_sem,simprocAttr,xE,xN,xC,xP,xA,xZ]
 refine callP (Q2l f g hf hg x.num.natAbs y.den (by omega) (by omega)) lL ?_
 simp -dsimp(disch:=first|exact om|fail)only[go_sem,simprocAttr,xE,xN,xC,xP,xA,xZ]
 refine callP (Q1I (x.num * y.den) (zb x.num) (x.num.natAbs * y.den) .s fls (by rw [X2D,Q1u]) (by omega)) lL ?_
 simp -dsimp(disch:=first|exact om|fail)only[go_sem,simprocAttr,xE,xN,xC,xP,xA,xZ]
 refine callP (Q2l g f hg hf y.num.natAbs x.den (by omega) (by omega)) lL ?_
 simp -dsimp(disch:=first|exact om|fail)only[go_sem,simprocAttr,xE,xN,xC,xP,xA,xZ]
 refine callP (Q1I (y.num * x.den) (zb y.num) (y.num.natAbs * x.den) .s fls (by rw [X2D,Q1u]) (by omega)) lL ?_
 simp -dsimp(disch:=first|exact om|fail)only[go_sem,simprocAttr,xE,xN,xC,xP,xA,xZ]
 refine callP (Y9E .s .s fls fls (x.num * y.den) (y.num * x.den) (by rw [← Q6p]; omega) (by rw [← Q6p]; omega)) lL ?_
 simp -dsimp(disch:=first|exact om|fail)only[go_sem,simprocAttr,xE,xN,xC,xP,xA,xZ]
 rfl
end Go.Proofs.YtchlpclgkhggeaaGreat