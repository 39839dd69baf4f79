/- part of the proof -/
import Derived.Test.YtchlpclgkhggeaaGreatVIa
namespace Go.Proofs.YtchlpclgkhggeaaGreat
open Go Go.RowKit
set_option maxRecDepth 100000
set_option maxHeartbeats 1600000
set_option linter.unusedVariables false
set_option linter.unusedSimpArgs false
abbrev zV (f : Fl) (z : Int) : V:=.agg (bC f (zb z) (lim z.natAbs))
def rtC (f : Fl) (r : Rat) : List V:=[Bo (zb r.num),sI f (lim r.num.natAbs),sI f (lim r.den)]
@[go_sem] theorem Z2A {f : Fl} {r : Rat} : rtC f r = [Bo (zb r.num),sI f (lim r.num.natAbs),sI f (lim r.den)]:=(rfl)
abbrev pR (f : Fl) (r : Rat) : V:=.ptr f (rtC f r)
def pQ (f : Fl) (x : FQ) : V:=match x.1 with
 | none=>.lit (.pointer none)
 | some r=>pR f r
theorem Z2W {f : Fl} : pQ f FQ.bad = .lit (.pointer none):=rfl
theorem Q5T (f : Fl) (x : FQ) : pQ f x = .lit (.pointer none) ∨ ∃ r,pQ f x = pR f r:=by
 unfold pQ; split
 ·exact .inl rfl
 ·exact .inr ⟨_,rfl⟩
@[go_sem] theorem sh_pQ {n : Nat} {f : Fl} {x : FQ} : V.sh n (pQ f x) = pQ f x:=by
 rcases Q5T f x with h | ⟨r,h⟩ <;> rw [h] <;> rfl
@[go_sem] theorem Z6c {f : Fl} {x : FQ} : V.cells (pQ f x) = some [pQ f x]:=by
 rcases Q5T f x with h | ⟨r,h⟩ <;> rw [h] <;> rfl
@[go_sem] theorem Z8X {f : Fl} {x : FQ} : V.cell (pQ f x) = True:=by
 rcases Q5T f x with h | ⟨r,h⟩ <;> rw [h] <;> rfl
@[go_sem] theorem Z0k {f : Fl} {x : FQ} : V.flat (pQ f x) = True:=by
 rcases Q5T f x with h | ⟨r,h⟩ <;> rw [h] <;> rfl
@[go_sem] theorem nu_pQ {f : Fl} {x : FQ} (hf : f ≠ .u) : V.nu (pQ f x) = True:=by
 rcases Q5T f x with h | ⟨r,h⟩ <;> rw [h]
 ·rfl
 ·cases f
  ·rfl
  ·rfl
  ·exact absurd rfl hf
@[go_sem] theorem Z3Q {f : Fl} {x : FQ} : V.fl2 (pQ f x) = True:=by
 rcases Q5T f x with h | ⟨r,h⟩ <;> rw [h] <;> rfl
@[go_sem] theorem Y5A {H : List Ob} {js : List (Option Nat)} {f : Fl} {sz n : Nat} {cs : List V} (hf : f ≠ .u) : Rn H js true (.sl f sz n cs) (.sl .b sz n cs) [] = True:=eq_true (Rn.lent hf)
theorem Y7g {a b : Nat} : cmpN a b = 0 ↔ a = b:=by
 unfold cmpN
 split
 ·omega
 ·split <;> omega
theorem Q2D (z : Int) (b : Bool) (n : Nat) (e : sgn b n = z) : PC PP Q6h [Bo b,sI .s (lim n)] (zV .s z) []:=by
 subst e
 rw [zV,Q1M,Y2U]
 refine tx X3m Q4V [] (by kernel_rfl) ?_
 simp -dsimp(disch:=first|exact om|fail)only[go_sem,simprocAttr,xE,xN,xC,xP,xA,xZ]
 have:=@Q0E n
 refine ⟨fun h=>?_,fun h=>by rw [h]; rfl⟩
 rw [h,Bool.true_and]
 apply decide_eq_decide.2
 constructor
 ·intro h; exact this.2 (by omega)
 ·intro h; have:=this.1 h; omega
theorem Y7U (z : Int) (b : Bool) (n : Nat) (f : Fl) (hf : f ≠ .u) (e : sgn b n = z) : PB PP Q6h [Bo b,sI f (lim n)] (zV .b z) []:=by
 subst e
 rw [zV,Q1M,Y2U]
 refine txb X3m Q4V [] [] [] (by kernel_rfl) ?_
 simp -dsimp(disch:=first|exact om|fail)only[go_sem,simprocAttr,xE,xN,xC,xP,xA,xZ]
 have:=@Q0E n
 have e : decide (0 < ((lim n).length : Int)) = decide (0 < n):=by
  apply decide_eq_decide.2
  constructor
  ·intro h; exact this.2 (by omega)
  ·intro h; have:=this.1 h; omega
 rw [e]
 refine ⟨fun h=>?_,fun h=>?_⟩
 ·rw [h,Bool.true_and]; exact RtB.nothing [] (by decide) trivial (by simp -dsimp(disch:=first|exact om|fail)only[go_sem,simprocAttr,xE,xN,xC,xP,xA,xZ,Y5A])
 ·rw [h,Bool.false_and]; exact RtB.nothing [] (by decide) trivial (by simp -dsimp(disch:=first|exact om|fail)only[go_sem,simprocAttr,xE,xN,xC,xP,xA,xZ,Y5A])
theorem Y4t (z : Int) (f : Fl) (hf : f ≠ .u) : PB PP Q1o [zV f z] (zV .b (-z)) []:=by
 refine txb Q2u Q1i [] [] [] (by kernel_rfl) ?_
 simp -dsimp(disch:=first|exact om|fail)only[go_sem,simprocAttr,xE,xN,xC,xP,xA,xZ]
 refine callB' (Y7U (-z) (!zb z) z.natAbs f hf (Y2f z)) lB lF ?_
 simp -dsimp(disch:=first|exact om|fail)only[go_sem,simprocAttr,xE,xN,xC,xP,xA,xZ]
 exact RtB.nothing [] (by decide) trivial (by simp -dsimp(disch:=first|exact om|fail)only[go_sem,simprocAttr,xE,xN,xC,xP,xA,xZ,Y5A])
theorem X6J (f : Fl) (hf : f ≠ .u) (b : Bool) (m : List Int) (hm : m.length ≤ 1048576) : PC PP Q9g [.agg (bC f b m)] (Bo (bok b m)) []:=by
 refine tx X7C Q6T [] (by kernel_rfl) ?_
 simp -dsimp(disch:=first|exact om|fail)only[go_sem,simprocAttr,xE,xN,xC,xP,xA,xZ]
 refine callP (X4P f hf m hm) lL ?_
 unfold bok
 cases h1 : okN m
 ·simp -dsimp(disch:=first|exact om|fail)only[go_sem,simprocAttr,xE,xN,xC,xP,xA,xZ]
 ·cases b
  ·simp -dsimp(disch:=first|exact om|fail)only[go_sem,simprocAttr,xE,xN,xC,xP,xA,xZ]
  ·by_cases h2 : m.length = 0
   ·simp -dsimp(disch:=first|exact om|fail)only[go_sem,simprocAttr,xE,xN,xC,xP,xA,xZ,h2]
   ·simp -dsimp(disch:=first|exact om|fail)only[go_sem,simprocAttr,xE,xN,xC,xP,xA,xZ]
    simp [h2]
theorem Y1r (f : Fl) (hf : f ≠ .u) (r : RD) (hr : r.small) : PC PP X5h [rV f r] (Bo r.ok) []:=by
 obtain ⟨b,m,d⟩:=r
 obtain ⟨hm,hd⟩:=hr
 simp only at hm hd
 refine tx Y1W X2C [] (by kernel_rfl) ?_
 simp -dsimp(disch:=first|exact om|fail)only[go_sem,simprocAttr,xE,xN,xC,xP,xA,xZ]
 refine callP (X6J f hf b m hm) lL ?_
 cases h1 : bok b m
 ·have : RD.ok ⟨b,m,d⟩ = false:=by
   show (bok b m && okN d && decide (d.length ≠ 0) && decide (d.length ≤ 24) && decide (m.length ≤ 24) && _) = false
   rw [h1]; simp
  rw [this]
  simp -dsimp(disch:=first|exact om|fail)only[go_sem,simprocAttr,xE,xN,xC,xP,xA,xZ]
 ·simp -dsimp(disch:=first|exact om|fail)only[go_sem,simprocAttr,xE,xN,xC,xP,xA,xZ]
  refine callP (X4P f hf d hd) lL ?_
  cases h2 : okN d
  ·have : RD.ok ⟨b,m,d⟩ = false:=by
    show (bok b m && okN d && decide (d.length ≠ 0) && decide (d.length ≤ 24) && decide (m.length ≤ 24) && _) = false
    rw [h2]; simp
   rw [this]
   simp -dsimp(disch:=first|exact om|fail)only[go_sem,simprocAttr,xE,xN,xC,xP,xA,xZ]
  ·obtain ⟨n,e,rfl,rfl,hk⟩:=Y5V h1 h2
   rw [hk]
   by_cases h3 : (lim e).length = 0
   ·simp -dsimp(disch:=first|exact om|fail)only[go_sem,simprocAttr,xE,xN,xC,xP,xA,xZ,h3]
   ·by_cases h5 : (lim n).length ≤ 24
    ·by_cases h4 : (lim e).length ≤ 24
     ·simp -dsimp(disch:=first|exact om|fail)only[go_sem,simprocAttr,xE,xN,xC,xP,xA,xZ]
      refine callB' (Y6X f f hf hf n e (by omega) (by omega)) lB lF ?_
      simp -dsimp(disch:=first|exact om|fail)only[go_sem,simprocAttr,xE,xN,xC,xP,xA,xZ]
      rw [X8F]
      refine callP (Q5A .b .s flb fls (Nat.gcd n e) 1 (by have:=X4f n e (Q0E.2 (by omega)); omega) (by rw [Q5W]; decide)) lL ?_
      simp -dsimp(disch:=first|exact om|fail)only[go_sem,simprocAttr,xE,xN,xC,xP,xA,xZ]
      simp [h3,h4,h5]
      exact Y7g
     ·simp -dsimp(disch:=first|exact om|fail)only[go_sem,simprocAttr,xE,xN,xC,xP,xA,xZ]
      simp [h4]
    ·simp -dsimp(disch:=first|exact om|fail)only[go_sem,simprocAttr,xE,xN,xC,xP,xA,xZ]
     simp [h5]
theorem Q4E (f g : Fl) (hf : f ≠ .u) (hg : g ≠ .u) (x y : Int) (hx : (lim x.natAbs).length ≤ 1000000) (hy : (lim y.natAbs).length ≤ 1000000) : PC PP Q4S [zV f x,zV g y] (zV .s (x + y)) []:=by
 refine tx X3q Q3U [] (by kernel_rfl) ?_
 simp -dsimp(disch:=first|exact om|fail)only[go_sem,simprocAttr,xE,xN,xC,xP,xA,xZ]
 refine callP (Q5A f g hf hg x.natAbs y.natAbs (by omega) (by omega)) lL ?_
 by_cases hs : zb x = zb y
 ·rw [hs]
  simp -dsimp(disch:=first|exact om|fail)only[go_sem,simprocAttr,xE,xN,xC,xP,xA,xZ,BEq.rfl]
  refine callP (Z2T f g hf hg x.natAbs y.natAbs (by omega) (by omega)) lL ?_
  simp -dsimp(disch:=first|exact om|fail)only[go_sem,simprocAttr,xE,xN,xC,xP,xA,xZ]
  refine callP (Q2D (x + y) (zb y) (x.natAbs + y.natAbs) (by rw [Y5u,Q1p,← hs,Q1p])) lL ?_
  simp -dsimp(disch:=first|exact om|fail)only[go_sem,simprocAttr,xE,xN,xC,xP,xA,xZ]
 ·have e : (zb x == zb y) = false:=by simpa using hs
  have key : x + y = sgn (zb x) x.natAbs + sgn (!zb x) y.natAbs:=by
   have : (!zb x) = zb y:=by cases h1 : zb x <;> cases h2 : zb y <;> simp [h1,h2] at hs ⊢
   rw [this,Q1p,Q1p]
  by_cases hc : y.natAbs ≤ x.natAbs
  ·have h1 : 0 ≤ cmpN x.natAbs y.natAbs:=Y9i.2 hc
   simp -dsimp(disch:=first|exact om|fail)only[go_sem,simprocAttr,xE,xN,xC,xP,xA,xZ,e]
   refine callP (Y6k f g hf hg x.natAbs y.natAbs hc (by omega)) lL ?_
   simp -dsimp(disch:=first|exact om|fail)only[go_sem,simprocAttr,xE,xN,xC,xP,xA,xZ]
   refine callP (Q2D (x + y) (zb x) (x.natAbs - y.natAbs) (by
    rw [key]; unfold sgn; cases zb x <;> simp <;> omega)) lW ?_
   simp -dsimp(disch:=first|exact om|fail)only[go_sem,simprocAttr,xE,xN,xC,xP,xA,xZ]
  ·have h1 : ¬ 0 ≤ cmpN x.natAbs y.natAbs:=by rw [X3f (by omega)]; decide
   simp -dsimp(disch:=first|exact om|fail)only[go_sem,simprocAttr,xE,xN,xC,xP,xA,xZ,e]
   refine callP (Y6k g f hg hf y.natAbs x.natAbs (by omega) (by omega)) lL ?_
   simp -dsimp(disch:=first|exact om|fail)only[go_sem,simprocAttr,xE,xN,xC,xP,xA,xZ]
   refine callP (Q2D (x + y) (zb y) (y.natAbs - x.natAbs) (by
    have : zb y = !zb x:=by cases h1 : zb x <;> cases h2 : zb y <;> simp [h1,h2] at hs ⊢
    rw [key,this]; unfold sgn; cases zb x <;> simp <;> omega)) lW ?_
   simp -dsimp(disch:=first|exact om|fail)only[go_sem,simprocAttr,xE,xN,xC,xP,xA,xZ]
theorem Q3V (f g : Fl) (hf : f ≠ .u) (hg : g ≠ .u) (x y : Int) (hx : (lim x.natAbs).length ≤ 1000000) (hy : (lim y.natAbs).length ≤ 1000000) : PC PP Q4j [zV f x,zV g y] (zV .s (x - y)) []:=by
 refine tx X1M Q3n [] (by kernel_rfl) ?_
 simp -dsimp(disch:=first|exact om|fail)only[go_sem,simprocAttr,xE,xN,xC,xP,xA,xZ]
 refine callB' (Y4t y g hg) lB lF ?_
 simp -dsimp(disch:=first|exact om|fail)only[go_sem,simprocAttr,xE,xN,xC,xP,xA,xZ]
 refine callP (Q4E f .b hf flb x (-y) hx (by rw [Int.natAbs_neg]; omega)) lL ?_
 simp -dsimp(disch:=first|exact om|fail)only[go_sem,simprocAttr,xE,xN,xC,xP,xA,xZ]
 rw [Int.sub_eq_add_neg]
 simp -dsimp(disch:=first|exact om|fail)only[go_sem,simprocAttr,xE,xN,xC,xP,xA,xZ]
theorem Q0w (f g : Fl) (hf : f ≠ .u) (hg : g ≠ .u) (x y : Int) (hx : (lim x.natAbs).length ≤ 1000000) (hy : (lim y.natAbs).length ≤ 1000000) : PC PP Q4i [zV f x,zV g y] (zV .s (x * y)) []:=by
 refine tx X1L Q3m [] (by kernel_rfl) ?_
 simp -dsimp(disch:=first|exact om|fail)only[go_sem,simprocAttr,xE,xN,xC,xP,xA,xZ]
 refine callP (X6c f g hf hg x.natAbs y.natAbs (by omega) (by omega)) lL ?_
 simp -dsimp(disch:=first|exact om|fail)only[go_sem,simprocAttr,xE,xN,xC,xP,xA,xZ]
 refine callP (Q2D (x * y) (zb x != zb y) (x.natAbs * y.natAbs) (Y3l x y)) lL ?_
 simp -dsimp(disch:=first|exact om|fail)only[go_sem,simprocAttr,xE,xN,xC,xP,xA,xZ]
theorem Y3m (f g : Fl) (hf : f ≠ .u) (hg : g ≠ .u) (r : Rat) (n : Nat) (h1 : (lim r.num.natAbs).length ≤ 1000000) (h2 : (lim n).length ≤ 1000000) : PC PP Q4g [pR f r,sI g (lim n)] (zV .s (r.num * n)) []:=by
 refine tx X1J Q3k [] (by kernel_rfl) ?_
 simp -dsimp(disch:=first|exact om|fail)only[go_sem,simprocAttr,xE,xN,xC,xP,xA,xZ]
 refine callP (X6c f g hf hg r.num.natAbs n (by omega) (by omega)) lL ?_
 simp -dsimp(disch:=first|exact om|fail)only[go_sem,simprocAttr,xE,xN,xC,xP,xA,xZ]
 refine callP (Q2D (r.num * n) (zb r.num) (r.num.natAbs * n) (by rw [X1V,Q1p])) lL ?_
 simp -dsimp(disch:=first|exact om|fail)only[go_sem,simprocAttr,xE,xN,xC,xP,xA,xZ]
theorem Le.pRb {H : List Ob} {g : Fl} (hg : g ≠ .u) (r : Rat) : Le H .b (pR g r) (pR g r):=by
 cases g with
 | s=>exact .ptr _ _ _ _ (.inl rfl) lW
 | b=>exact .ptr _ _ _ _ ⟨rfl,rfl⟩ lW
 | u=>exact absurd rfl hg
theorem Le.pRs {H : List Ob} {f : Fl} (r : Rat) : Le H f (pR .s r) (pR .s r):=.ptr _ _ _ _ (.inl rfl) lW
@[go_sem] theorem le_pR {H : List Ob} {g : Fl} {r : Rat} (hg : g ≠ .u) : Le H .b (pR g r) (pR g r) = True:=eq_true (Le.pRb hg r)
@[go_sem] theorem J0m {H : List Ob} {f : Fl} {r : Rat} : Le H f (pR .s r) (pR .s r) = True:=eq_true (Le.pRs r)
@[go_sem] theorem le_pQ {H : List Ob} {g : Fl} {x : FQ} (hg : g ≠ .u) : Le H .b (pQ g x) (pQ g x) = True:=by
 apply eq_true; unfold pQ; split
 ·exact .lit _
 ·exact Le.pRb hg _
@[go_sem] theorem Z3t {H : List Ob} {f : Fl} {x : FQ} : Le H f (pQ .s x) (pQ .s x) = True:=by
 apply eq_true; unfold pQ; split
 ·exact .lit _
 ·exact Le.pRs _
theorem Le.refR {H : List Ob} {f : Fl} {id off : Nat} {ty : TypeId} {cs : List V} {r : Rat} (h : H[id]? = some ⟨.own,ty,cs⟩) (e : LeL H f (cs.drop off) (rtC f r)) : Le H f (.ref id off) (pR f r):=.ref id off _ _ h (.inl rfl) e
theorem Y4u (z : Int) (d : Nat) (hd : d ≠ 0) : (mkRat z d).num = sgn (zb z) (z.natAbs / Nat.gcd z.natAbs d) ∧ (mkRat z d).den = d / Nat.gcd z.natAbs d:=by
 have:=Y1l (zb z) z.natAbs d hd
 rwa [Q1p] at this
theorem X9E (z : Int) (d : Nat) (hd : 0 < d) (h1 : (lim z.natAbs).length ≤ 1000000) (h2 : (lim d).length ≤ 1000000) : PC PP X3L [zV .s z,sI .s (lim d)] (pR .s (mkRat z d)) []:=by
  refine tx Y0H X0A [] (by kernel_rfl) ?_
  obtain ⟨e1,e2⟩:=Y4u z d (by omega)
  by_cases h0 : z = 0
  · subst h0
    have e3 : mkRat 0 d = 0:=by rw [Rat.zero_mkRat]
    rw [e3]
    have l0 : lim (Int.natAbs 0) = []:=Q0j
    simp -dsimp(disch:=first|exact om|fail)only[go_sem,↓reduceIte,Nat.reduceEqDiff,Nat.reduceAdd,Nat.reduceSub,Nat.reduceMul,Nat.reduceLT,Nat.reduceLeDiff,reduceCtorEq,xE,xN,xC,xP,xA,xZ,Int.reduceToNat,l0,X8F]
    exact Le.refR rfl (by show LeL _ _ _ [Bo (zb 0),sI .s (lim 0),sI .s (lim 1)]; simp -dsimp(disch:=first|exact om|fail)only[go_sem,↓reduceIte,Nat.reduceEqDiff,Nat.reduceAdd,Nat.reduceSub,Nat.reduceMul,Nat.reduceLT,Nat.reduceLeDiff,reduceCtorEq,xE,xN,xC,xP,xA,xZ,Int.reduceToNat,Q0j]; rfl)
  · have hz : 0 < z.natAbs:=by omega
    have hl:=Q0E.1 hz
    have hg0 : 0 < Nat.gcd z.natAbs d:=Nat.gcd_pos_of_pos_right _ hd
    have hgl:=X4f z.natAbs d hd
    simp -dsimp(disch:=first|exact om|fail)only[go_sem,↓reduceIte,Nat.reduceEqDiff,Nat.reduceAdd,Nat.reduceSub,Nat.reduceMul,Nat.reduceLT,Nat.reduceLeDiff,reduceCtorEq,xE,xN,xC,xP,xA,xZ,Int.reduceToNat]
    refine callP (Y6W z.natAbs d (by omega) (by omega)) lL ?_
    simp -dsimp(disch:=first|exact om|fail)only[go_sem,↓reduceIte,Nat.reduceEqDiff,Nat.reduceAdd,Nat.reduceSub,Nat.reduceMul,Nat.reduceLT,Nat.reduceLeDiff,reduceCtorEq,xE,xN,xC,xP,xA,xZ,Int.reduceToNat,X8F]
    refine callP (Q5A .s .s fls fls (Nat.gcd z.natAbs d) 1 (by omega) (by rw [Q5W]; decide)) lL ?_
    by_cases h3 : Nat.gcd z.natAbs d = 1
    · have h4 : cmpN (Nat.gcd z.natAbs d) 1 = 0:=Y7g.2 h3
      rw [h3,Nat.div_one,Q1p] at e1
      rw [h3,Nat.div_one] at e2
      simp -dsimp(disch:=first|exact om|fail)only[go_sem,↓reduceIte,Nat.reduceEqDiff,Nat.reduceAdd,Nat.reduceSub,Nat.reduceMul,Nat.reduceLT,Nat.reduceLeDiff,reduceCtorEq,xE,xN,xC,xP,xA,xZ,Int.reduceToNat,h4]
      exact Le.refR rfl (by rw [Z2A,e1,e2]; simp -dsimp(disch:=first|exact om|fail)only[go_sem,↓reduceIte,Nat.reduceEqDiff,Nat.reduceAdd,Nat.reduceSub,Nat.reduceMul,Nat.reduceLT,Nat.reduceLeDiff,reduceCtorEq,xE,xN,xC,xP,xA,xZ,Int.reduceToNat])
    · have h4 : ¬ cmpN (Nat.gcd z.natAbs d) 1 = 0:=fun h=>h3 (Y7g.1 h)
      simp -dsimp(disch:=first|exact om|fail)only[go_sem,↓reduceIte,Nat.reduceEqDiff,Nat.reduceAdd,Nat.reduceSub,Nat.reduceMul,Nat.reduceLT,Nat.reduceLeDiff,reduceCtorEq,xE,xN,xC,xP,xA,xZ,Int.reduceToNat,h4]
      refine callP (Y1g .s .s fls fls z.natAbs (Nat.gcd z.natAbs d) hg0 (by omega) (by omega)) lL ?_
      simp -dsimp(disch:=first|exact om|fail)only[go_sem,↓reduceIte,Nat.reduceEqDiff,Nat.reduceAdd,Nat.reduceSub,Nat.reduceMul,Nat.reduceLT,Nat.reduceLeDiff,reduceCtorEq,xE,xN,xC,xP,xA,xZ,Int.reduceToNat]
      refine callP (Y1g .s .s fls fls d (Nat.gcd z.natAbs d) hg0 (by omega) (by omega)) lL ?_
      simp -dsimp(disch:=first|exact om|fail)only[go_sem,↓reduceIte,Nat.reduceEqDiff,Nat.reduceAdd,Nat.reduceSub,Nat.reduceMul,Nat.reduceLT,Nat.reduceLeDiff,reduceCtorEq,xE,xN,xC,xP,xA,xZ,Int.reduceToNat]
      refine callP (Q2D (mkRat z d).num (zb z) (z.natAbs / Nat.gcd z.natAbs d) e1.symm) lL ?_
      rw [← e2]
      simp -dsimp(disch:=first|exact om|fail)only[go_sem,↓reduceIte,Nat.reduceEqDiff,Nat.reduceAdd,Nat.reduceSub,Nat.reduceMul,Nat.reduceLT,Nat.reduceLeDiff,reduceCtorEq,xE,xN,xC,xP,xA,xZ,Int.reduceToNat]
theorem X8O {a b k : Nat} (ha : (lim a).length ≤ k) (hb : (lim b).length ≤ k) : (lim (a + b)).length ≤ k + 1:=by
 rw [Q0d] at *
 rw [Int.pow_succ]
 generalize (1000000000 : Int) ^ k = P at *
 omega
theorem Y1a (f g : Fl) (hf : f ≠ .u) (hg : g ≠ .u) (r s : Rat) (h1 : (lim r.num.natAbs).length ≤ 1000) (h2 : (lim r.den).length ≤ 1000) (h3 : (lim s.num.natAbs).length ≤ 1000) (h4 : (lim s.den).length ≤ 1000) : PC PP Q5N [pR f r,pR g s] (pR .s (r + s)) []:=by
 refine tx X4y Q4C [] (by kernel_rfl) ?_
 simp -dsimp(disch:=first|exact om|fail)only[go_sem,simprocAttr,xE,xN,xC,xP,xA,xZ]
 refine callP (Y3m f g hf hg r s.den (by omega) (by omega)) lL ?_
 simp -dsimp(disch:=first|exact om|fail)only[go_sem,simprocAttr,xE,xN,xC,xP,xA,xZ]
 refine callP (Y3m g f hg hf s r.den (by omega) (by omega)) lL ?_
 simp -dsimp(disch:=first|exact om|fail)only[go_sem,simprocAttr,xE,xN,xC,xP,xA,xZ]
 have m1:=Q0v (a:=r.num.natAbs) (d:=s.den)
 have m2:=Q0v (a:=s.num.natAbs) (d:=r.den)
 have m3:=Q0v (a:=r.den) (d:=s.den)
 rw [X1t] at m1 m2
 refine callP (Q4E .s .s fls fls (r.num * s.den) (s.num * r.den) (by omega) (by omega)) lL ?_
 simp -dsimp(disch:=first|exact om|fail)only[go_sem,simprocAttr,xE,xN,xC,xP,xA,xZ]
 refine callP (X6c f g hf hg r.den s.den (by omega) (by omega)) lL ?_
 simp -dsimp(disch:=first|exact om|fail)only[go_sem,simprocAttr,xE,xN,xC,xP,xA,xZ]
 have hl : (lim (r.num * s.den + s.num * r.den).natAbs).length ≤ 1000000:=by
  have h5:=Q0e (Int.natAbs_add_le (r.num * s.den) (s.num * r.den))
  have h8:=X8O (a:=(r.num * s.den).natAbs) (b:=(s.num * r.den).natAbs) (k:=2000) (by omega) (by omega)
  omega
 refine callP (X9E (r.num * s.den + s.num * r.den) (r.den * s.den) (Nat.mul_pos r.den_pos s.den_pos) hl (by omega)) lL ?_
 have e : mkRat (r.num * s.den + s.num * r.den) (r.den * s.den) = r + s:=by rw [Rat.add_def,Rat.normalize_eq_mkRat]
 rw [e]
 simp -dsimp(disch:=first|exact om|fail)only[go_sem,simprocAttr,xE,xN,xC,xP,xA,xZ]
theorem X9A (f g : Fl) (hf : f ≠ .u) (hg : g ≠ .u) (r s : Rat) (h1 : (lim r.num.natAbs).length ≤ 1000) (h2 : (lim r.den).length ≤ 1000) (h3 : (lim s.num.natAbs).length ≤ 1000) (h4 : (lim s.den).length ≤ 1000) : PC PP Q4P [pR f r,pR g s] (pR .s (r * s)) []:=by
 refine tx X3n Q3P [] (by kernel_rfl) ?_
 have m1:=Q0v (a:=r.num.natAbs) (d:=s.num.natAbs)
 rw [← Int.natAbs_mul] at m1
 have m3:=Q0v (a:=r.den) (d:=s.den)
 simp -dsimp(disch:=first|exact om|fail)only[go_sem,simprocAttr,xE,xN,xC,xP,xA,xZ]
 refine callP (Q0w f g hf hg r.num s.num (by omega) (by omega)) lL ?_
 simp -dsimp(disch:=first|exact om|fail)only[go_sem,simprocAttr,xE,xN,xC,xP,xA,xZ]
 refine callP (X6c f g hf hg r.den s.den (by omega) (by omega)) lL ?_
 simp -dsimp(disch:=first|exact om|fail)only[go_sem,simprocAttr,xE,xN,xC,xP,xA,xZ]
 refine callP (X9E (r.num * s.num) (r.den * s.den) (Nat.mul_pos r.den_pos s.den_pos) (by omega) (by omega)) lL ?_
 have e : mkRat (r.num * s.num) (r.den * s.den) = r * s:=by rw [Rat.mul_def,Rat.normalize_eq_mkRat]
 rw [e]
 simp -dsimp(disch:=first|exact om|fail)only[go_sem,simprocAttr,xE,xN,xC,xP,xA,xZ]
theorem Z2V (f : Fl) (r : Rat) : pQ f (FQ.fit r) = if (lim r.num.natAbs).length ≤ 24 ∧ (lim r.den).length ≤ 24 then pR f r else .lit (.pointer none):=by
 unfold FQ.fit
 by_cases h : (lim r.num.natAbs).length ≤ 24 ∧ (lim r.den).length ≤ 24
 ·rw [dif_pos h,if_pos h]; rfl
 ·rw [dif_neg h,if_neg h]; rfl
theorem fit_c (r : Rat) (h1 : (lim r.num.natAbs).length ≤ 1000000) (h2 : (lim r.den).length ≤ 1000000) : PC PP X9c [pR .s r] (pQ .s (FQ.fit r)) []:=by
 refine tx Y4S X6I [] (by kernel_rfl) ?_
 rw [Z2V]
 by_cases a : (lim r.num.natAbs).length ≤ 24
 ·by_cases b : (lim r.den).length ≤ 24
  ·rw [if_pos ⟨a,b⟩]; simp -dsimp(disch:=first|exact om|fail)only[go_sem,simprocAttr,xE,xN,xC,xP,xA,xZ]
  ·rw [if_neg (fun h=>b h.2)]; simp -dsimp(disch:=first|exact om|fail)only[go_sem,simprocAttr,xE,xN,xC,xP,xA,xZ]
 ·rw [if_neg (fun h=>a h.1)]; simp -dsimp(disch:=first|exact om|fail)only[go_sem,simprocAttr,xE,xN,xC,xP,xA,xZ]
theorem Z3s (f : Fl) (hf : f ≠ .u) (r : RD) (hr : r.small) : PB PP X7H [rV f r] (pQ .b (rdq r)) []:=by
 refine txb Y2S X4N [] [] [] (by kernel_rfl) ?_
 simp -dsimp(disch:=first|exact om|fail)only[go_sem,simprocAttr,xE,xN,xC,xP,xA,xZ]
 refine callP (Y1r f hf r hr) lL ?_
 cases h1 : r.ok
 ·rw [X9z h1,Z2W]
  simp -dsimp(disch:=first|exact om|fail)only[go_sem,simprocAttr,xE,xN,xC,xP,xA,xZ]
  exact RtB.nothing [] (by decide) trivial lW
 ·obtain ⟨x,rfl,hx⟩:=ok_qd h1
  rw [X1Z]
  obtain ⟨x,hok⟩:=x
  cases x with
  | none=>cases hx
  | some q =>
   simp -dsimp(disch:=first|exact om|fail)only[go_sem,simprocAttr,xE,xN,xC,xP,xA,xZ]
   refine RtB.shareb (cs:=rtC f q) (cs':=rtC .b q) 1 rfl lW lW lW ?_
   exact RtB.nothing [] (by decide) trivial (of_eq_true (Y9D lW))
theorem PC.nilO {f : FuncId} {r : V} {objs : List Ob} {fl : Fl} (hf : fl ≠ .u) (h : ∀ (a : Option Addr) (c : Nat),c ≤ maxLen → PC PP f [.lit (.slice a 0 c)] r objs) : PC PP f [.sl fl 1 0 []] r objs:=by
 refine ⟨(h none 0 (by decide)).1,fun w S B xs hb hr=>?_⟩
 obtain ⟨x,xs',u1,u2,rfl,e2,e3,e4,e5⟩:=hr
 subst e4
 obtain ⟨a,c,rfl,_,hc,_⟩:=e3
 exact (h a c hc).2 w S B _ hb ⟨_,_,[],[],rfl,rfl,⟨rfl,rfl,rfl⟩,rfl,rfl⟩
theorem Y7p (f : Fl) (hf : f ≠ .u) (l : List Int) (hl : l.length ≤ 1048576) : GC PP Q1n [sI f l] [] (.rsl 0 1 0 l.length) [⟨.own,T_int,iC l⟩]:=by
 by_cases h0 : l.length = 0
 ·obtain rfl:=List.eq_nil_of_length_eq_zero h0
  refine PC.gc (PC.nilO hf fun a c hc=>GC.pc ?_)
  cases a with
  | none =>
   refine txg Q0s Q0n 0 [] [] [] rfl (by kernel_rfl) ?_
   simp -dsimp(disch:=first|exact om|fail)only[go_sem,simprocAttr,xE,xN,xC,xP,xA,xZ,Option.isNone_none]
   exact RtG.ren [none] [[]] trivial (by decide) (by simp -dsimp only [go_sem,simprocAttr]; simp [iC]) (by simp -dsimp only [go_sem,simprocAttr])
  | some a =>
   refine txg Q0s Q0n 0 [] [3] [] rfl (by kernel_rfl) ?_
   simp -dsimp(disch:=first|exact om|fail)only[go_sem,simprocAttr,xE,xN,xC,xP,xA,xZ,Option.isNone_some]
   refine ⟨⟨[(0,.sl .b 1 0 [])],[]⟩,StI.var ?_, ?_⟩
   ·intro t v ht
    by_cases e : t = 0
    ·subst e
     obtain rfl : V.sl .b 1 0 [] = v:=Option.some.inj ht
     refine ⟨_,rfl, ?_⟩
     rintro w S B κ x ⟨_,rfl,_⟩
     exact ⟨_,_,rfl,Nat.zero_le _,hc,rfl,.inl ⟨rfl,rfl,by intro h; cases h⟩⟩
    ·have e' : (t == 0) = false:=by simpa using e
     simp only [List.lookup,e'] at ht
     cases ht
   ·simp -dsimp(disch:=first|exact om|fail)only[go_sem,simprocAttr,xE,xN,xC,xP,xA,xZ]
    exact RtG.nothing [some 0] trivial (by decide) (by simp -dsimp only [go_sem,simprocAttr]; exact RnL.nil _ _) lW
 ·have : 0 < l.length:=by omega
  refine txg Q0s Q0n 0 [] [] [] rfl (by kernel_rfl) ?_
  simp -dsimp(disch:=first|exact om|fail)only[go_sem,simprocAttr,xE,xN,xC,xP,xA,xZ]
  exact RtG.nothing [some 0] lE (by decide) lS lE
theorem Z0n (f : Fl) (hf : f ≠ .u) (z : Int) (hz : (lim z.natAbs).length ≤ 60) : GC PP Q4k [zV f z] [] (.agg [Bo (zb z),.rsl 0 1 0 (lim z.natAbs).length]) [⟨.own,T_int,iC (lim z.natAbs)⟩]:=by
 refine txg X1N Q3o 0 [] [] [] rfl (by kernel_rfl) ?_
 simp -dsimp(disch:=first|exact om|fail)only[go_sem,simprocAttr,xE,xN,xC,xP,xA,xZ]
 refine callO' (Y7p f hf (lim z.natAbs) (by omega)) lL lF ?_
 simp -dsimp(disch:=first|exact om|fail)only[go_sem,simprocAttr,xE,xN,xC,xP,xA,xZ]
 exact RtG.nothing [some 2] lE (by decide) lS lE
theorem Y2c (f : Fl) (hf : f ≠ .u) (x : FQ) : GC PP Q4O [pQ f x] [] (rO (qd x)) (rH (qd x)):=by
 obtain ⟨x,hx⟩:=x
 cases x with
 | none =>
  show GC PP Q4O [.lit (.pointer none)] [] (rO (qd FQ.bad)) (rH (qd FQ.bad))
  rw [Q5f]
  refine txg X4Y Q5Z 0 [] [] [] rfl (by kernel_rfl) ?_
  simp -dsimp(disch:=first|exact om|fail)only[go_sem,simprocAttr,xE,xN,xC,xP,xA,xZ]
  exact RtG.ren [none,none] [[],[]] trivial (by decide) (by simp -dsimp only [go_sem,simprocAttr]; simp [iC]) lW
 | some r =>
  have h1:=hx r rfl
  show GC PP Q4O [pR f r] [] (.agg [Bo (zb r.num),.rsl 0 1 0 (lim r.num.natAbs).length,.rsl 1 1 0 (lim r.den).length]) [⟨.own,T_int,iC (lim r.num.natAbs)⟩,⟨.own,T_int,iC (lim r.den)⟩]
  refine txg X4Y Q5Z 0 [] [] [] rfl (by kernel_rfl) ?_
  simp -dsimp(disch:=first|exact om|fail)only[go_sem,simprocAttr,xE,xN,xC,xP,xA,xZ]
  refine callO' (Z0n f hf r.num (by omega)) lL lF ?_
  simp -dsimp(disch:=first|exact om|fail)only[go_sem,simprocAttr,xE,xN,xC,xP,xA,xZ]
  refine callO' (Y7p f hf (lim r.den) (by omega)) lL lF ?_
  simp -dsimp(disch:=first|exact om|fail)only[go_sem,simprocAttr,xE,xN,xC,xP,xA,xZ]
  exact RtG.nothing [some 1,some 2] lE (by decide) lS lE
theorem Y1o (b : Bool) (m : List Int) (k : Int) (hl : m.length ≤ 1048576) (hk : 0 ≤ k ∧ k ≤ 1000000000) :
  GC PP Q5K [.agg [Bo b,.rsl 0 1 0 m.length],I k] [⟨.own,T_int,iC m⟩] (I (k + m.length)) [⟨.own,T_int,iC (marks k m.length)⟩]:=by
 refine txg X4v Q4z 1 [] [] [1] rfl (by kernel_rfl) ?_
 simp -dsimp(disch:=first|exact om|fail)only[go_sem,simprocAttr,xE,xN,xC,xP,xA,xZ]
 refine callG' [0] (Q2z T_int m k (by omega) (by omega)) (by decide) lE lE lE lF ?_
 simp -dsimp(disch:=first|exact om|fail)only[go_sem,simprocAttr,xE,xN,xC,xP,xA,xZ]
 exact RtG.nothing [some 0] lE (by decide) lS lE
theorem Y1w {l : List Int} {k : Int} (hk : 0 ≤ k) (h : heldI l k < 0) : -1 = heldI l k:=by
 unfold heldI at *
 split at h
 ·omega
 ·rename_i h1; rw [if_neg h1]
theorem Y1x (f : Fl) (hf : f ≠ .u) (b : Bool) (m : List Int) (k : Int) (hl : m.length ≤ 1048576) (hk : 0 ≤ k ∧ k ≤ 1000000000) : PC PP Q5M [.agg (bC f b m),I k] (I (heldI m k)) []:=by
 refine tx X4x Q4B [] (by kernel_rfl) ?_
 simp -dsimp(disch:=first|exact om|fail)only[go_sem,simprocAttr,xE,xN,xC,xP,xA,xZ]
 refine callP (Q9s f hf m k (by omega) (by omega)) lL ?_
 simp -dsimp(disch:=first|exact om|fail)only[go_sem,simprocAttr,xE,xN,xC,xP,xA,xZ]
 exact Y1w hk.1
def markR (r : RD) (k : Int) : RD:=⟨r.neg,marks k r.mag.length,marks (k + r.mag.length) r.den.length⟩
def heldR (r : RD) (k : Int) : Int:=if heldI r.mag k < 0 then -1 else heldI r.den (heldI r.mag k)
theorem Y4G {r : RD} {k : Int} (hk : 0 ≤ k) : heldR (markR r k) k = k + r.sz:=by
 unfold heldR markR RD.sz
 simp only [X1x]
 rw [if_neg (by omega)]; omega
theorem Y2t {r : RD} {k : Int} (h : r.small) : (markR r k).small:=⟨by simp [markR]; exact h.1,by simp [markR]; exact h.2⟩
@[go_sem] theorem Z3r {r : RD} {k : Int} : (markR r k).neg = r.neg:=(rfl)
theorem Y6n (r : RD) (k : Int) (hl : r.small) (hk : 0 ≤ k ∧ k ≤ 100000000) : GC PP X1i [rO r,I k] (rH r) (I (k + r.sz)) (rH (markR r k)):=by
 obtain ⟨b,m,d⟩:=r
 obtain ⟨h1,h2⟩:=hl
 simp only at h1 h2
 have e : k + (RD.sz ⟨b,m,d⟩ : Nat) = k + m.length + d.length:=by unfold RD.sz; simp only; omega
 rw [e]
 refine txg X8t Q8g 2 [] [] [1,2] rfl (by kernel_rfl) ?_
 simp -dsimp(disch:=first|exact om|fail)only[go_sem,simprocAttr,xE,xN,xC,xP,xA,xZ]
 refine callG' [0] (Y1o b m k (by omega) (by omega)) (by decide) lE lE lE lF ?_
 simp -dsimp(disch:=first|exact om|fail)only[go_sem,simprocAttr,xE,xN,xC,xP,xA,xZ]
 refine callG' [1] (Q2z T_int d (k + m.length) (by omega) (by omega)) (by decide) lE lE lE lF ?_
 simp -dsimp(disch:=first|exact om|fail)only[go_sem,simprocAttr,xE,xN,xC,xP,xA,xZ]
 unfold markR
 exact RtG.nothing [some 0,some 1] lE (by decide) lS lE
theorem Y6G (f : Fl) (hf : f ≠ .u) (r : RD) (k : Int) (hl : r.small) (hk : 0 ≤ k ∧ k ≤ 100000000) : PC PP X1j [rV f r,I k] (I (heldR r k)) []:=by
 obtain ⟨b,m,d⟩:=r
 obtain ⟨h1,h2⟩:=hl
 simp only at h1 h2
 unfold heldR
 have hr:=Y6H (l:=m) (k:=k) (by omega) hk.1
 refine tx X8u Q8h [] (by kernel_rfl) ?_
 simp -dsimp(disch:=first|exact om|fail)only[go_sem,simprocAttr,xE,xN,xC,xP,xA,xZ]
 refine callP (Y1x f hf b m k (by omega) (by omega)) lL ?_
 by_cases h : heldI m k < 0
 ·rw [if_pos h]
  simp -dsimp(disch:=first|exact om|fail)only[go_sem,simprocAttr,xE,xN,xC,xP,xA,xZ]
 ·rw [if_neg h]
  simp -dsimp(disch:=first|exact om|fail)only[go_sem,simprocAttr,xE,xN,xC,xP,xA,xZ]
  refine callP (Q9s f hf d (heldI m k) (by omega) (by omega)) lL ?_
  simp -dsimp(disch:=first|exact om|fail)only[go_sem,simprocAttr,xE,xN,xC,xP,xA,xZ]
  exact Y1w (by omega)
end Go.Proofs.YtchlpclgkhggeaaGreat