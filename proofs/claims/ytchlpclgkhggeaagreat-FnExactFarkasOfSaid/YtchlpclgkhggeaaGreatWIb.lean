/- part of the proof -/
import Derived.Test.YtchlpclgkhggeaaGreatWIa
namespace Go.Proofs.YtchlpclgkhggeaaGreat
open Go Go.RowKit
set_option maxRecDepth 100000
set_option maxHeartbeats 1600000
set_option linter.unusedVariables false
set_option linter.unusedSimpArgs false
abbrev zV (f : Fl) (z : Int) : V:=.agg (bC f (zb z) (lim z.natAbs))
def rtC (f : Fl) (r : Rat) : List V:=[Bo (zb r.num),sI f (lim r.num.natAbs),sI f (lim r.den)]
@[go_sem] theorem Z4m {f : Fl} {r : Rat} : rtC f r = [Bo (zb r.num),sI f (lim r.num.natAbs),sI f (lim r.den)]:=(rfl)
abbrev pR (f : Fl) (r : Rat) : V:=.ptr f (rtC f r)
def pQ (f : Fl) (x : FQ) : V:=match x.1 with
 | none=>.lit (.pointer none)
 | some r=>pR f r
theorem Z4H {f : Fl} : pQ f FQ.bad = .lit (.pointer none):=rfl
theorem Q6o (f : Fl) (x : FQ) : pQ f x = .lit (.pointer none) ∨ ∃ r,pQ f x = pR f r:=by
 unfold pQ; split
 ·exact .inl rfl
 ·exact .inr ⟨_,rfl⟩
@[go_sem] theorem sh_pQ {n : Nat} {f : Fl} {x : FQ} : V.sh n (pQ f x) = pQ f x:=by
 rcases Q6o f x with h | ⟨r,h⟩ <;> rw [h] <;> rfl
@[go_sem] theorem Z7P {f : Fl} {x : FQ} : V.cells (pQ f x) = some [pQ f x]:=by
 rcases Q6o f x with h | ⟨r,h⟩ <;> rw [h] <;> rfl
@[go_sem] theorem J0N {f : Fl} {x : FQ} : V.cell (pQ f x) = True:=by
 rcases Q6o f x with h | ⟨r,h⟩ <;> rw [h] <;> rfl
@[go_sem] theorem Z1Q {f : Fl} {x : FQ} : V.flat (pQ f x) = True:=by
 rcases Q6o f x with h | ⟨r,h⟩ <;> rw [h] <;> rfl
@[go_sem] theorem nu_pQ {f : Fl} {x : FQ} (hf : f ≠ .u) : V.nu (pQ f x) = True:=by
 rcases Q6o f x with h | ⟨r,h⟩ <;> rw [h]
 ·rfl
 ·cases f
  ·rfl
  ·rfl
  ·exact absurd rfl hf
@[go_sem] theorem Y6S {H : List Ob} {js : List (Option Nat)} {f : Fl} {sz n : Nat} {cs : List V} (hf : f ≠ .u) : Rn H js true (.sl f sz n cs) (.sl .b sz n cs) [] = True:=eq_true (Rn.lent hf)
theorem Y8C {a b : Nat} : cmpN a b = 0 ↔ a = b:=by
 unfold cmpN
 split
 ·omega
 ·split <;> omega
theorem Q2T (z : Int) (b : Bool) (n : Nat) (e : sgn b n = z) : PC PP Q6H [Bo b,sI .s (lim n)] (zV .s z) []:=by
 subst e
 rw [zV,Q1E,Y4d]
 refine tx X4e Q5s [] (by kernel_rfl) ?_
 simp -dsimp(disch:=first|exact om|fail)only[go_sem,simprocAttr,xE,xN,xC,xP,xA,xZ]
 have:=@Q0I n
 refine ⟨fun h=>?_,fun h=>by rw [h]; rfl⟩
 rw [h,Bool.true_and]
 apply decide_eq_decide.2
 constructor
 ·intro h; exact this.2 (by omega)
 ·intro h; have:=this.1 h; omega
theorem Y9o (z : Int) (b : Bool) (n : Nat) (f : Fl) (hf : f ≠ .u) (e : sgn b n = z) : PB PP Q6H [Bo b,sI f (lim n)] (zV .b z) []:=by
 subst e
 rw [zV,Q1E,Y4d]
 refine txb X4e Q5s [] [] [] (by kernel_rfl) ?_
 simp -dsimp(disch:=first|exact om|fail)only[go_sem,simprocAttr,xE,xN,xC,xP,xA,xZ]
 have:=@Q0I n
 have e : decide (0 < ((lim n).length : Int)) = decide (0 < n):=by
  apply decide_eq_decide.2
  constructor
  ·intro h; exact this.2 (by omega)
  ·intro h; have:=this.1 h; omega
 rw [e]
 refine ⟨fun h=>?_,fun h=>?_⟩
 ·rw [h,Bool.true_and]; exact RtB.nothing [] (by decide) trivial (by simp -dsimp(disch:=first|exact om|fail)only[go_sem,simprocAttr,xE,xN,xC,xP,xA,xZ,Y6S])
 ·rw [h,Bool.false_and]; exact RtB.nothing [] (by decide) trivial (by simp -dsimp(disch:=first|exact om|fail)only[go_sem,simprocAttr,xE,xN,xC,xP,xA,xZ,Y6S])
theorem Y5G (z : Int) (f : Fl) (hf : f ≠ .u) : PB PP Q1u [zV f z] (zV .b (-z)) []:=by
 refine txb Q2K Q1n [] [] [] (by kernel_rfl) ?_
 simp -dsimp(disch:=first|exact om|fail)only[go_sem,simprocAttr,xE,xN,xC,xP,xA,xZ]
 refine callB' (Y9o (-z) (!zb z) z.natAbs f hf (Y3m z)) lB lF ?_
 simp -dsimp(disch:=first|exact om|fail)only[go_sem,simprocAttr,xE,xN,xC,xP,xA,xZ]
 exact RtB.nothing [] (by decide) trivial (by simp -dsimp(disch:=first|exact om|fail)only[go_sem,simprocAttr,xE,xN,xC,xP,xA,xZ,Y6S])
theorem X7L (f : Fl) (hf : f ≠ .u) (b : Bool) (m : List Int) (hm : m.length ≤ 1048576) : PC PP Q9O [.agg (bC f b m)] (Bo (bok b m)) []:=by
 refine tx X8E Q7v [] (by kernel_rfl) ?_
 simp -dsimp(disch:=first|exact om|fail)only[go_sem,simprocAttr,xE,xN,xC,xP,xA,xZ]
 refine callP (X5K f hf m hm) lL ?_
 unfold bok
 cases h1 : okN m
 ·simp -dsimp(disch:=first|exact om|fail)only[go_sem,simprocAttr,xE,xN,xC,xP,xA,xZ]
 ·cases b
  ·simp -dsimp(disch:=first|exact om|fail)only[go_sem,simprocAttr,xE,xN,xC,xP,xA,xZ]
  ·by_cases h2 : m.length = 0
   ·simp -dsimp(disch:=first|exact om|fail)only[go_sem,simprocAttr,xE,xN,xC,xP,xA,xZ,h2]
   ·simp -dsimp(disch:=first|exact om|fail)only[go_sem,simprocAttr,xE,xN,xC,xP,xA,xZ]
    simp [h2]
theorem Y2w (f : Fl) (hf : f ≠ .u) (r : RD) (hr : r.small) : PC PP X6f [rV f r] (Bo r.ok) []:=by
 obtain ⟨b,m,d⟩:=r
 obtain ⟨hm,hd⟩:=hr
 simp only at hm hd
 refine tx Y3e X3v [] (by kernel_rfl) ?_
 simp -dsimp(disch:=first|exact om|fail)only[go_sem,simprocAttr,xE,xN,xC,xP,xA,xZ]
 refine callP (X7L f hf b m hm) lL ?_
 cases h1 : bok b m
 ·have : RD.ok ⟨b,m,d⟩ = false:=by
   show (bok b m && okN d && decide (d.length ≠ 0) && decide (d.length ≤ 24) && decide (m.length ≤ 24) && _) = false
   rw [h1]; simp
  rw [this]
  simp -dsimp(disch:=first|exact om|fail)only[go_sem,simprocAttr,xE,xN,xC,xP,xA,xZ]
 ·simp -dsimp(disch:=first|exact om|fail)only[go_sem,simprocAttr,xE,xN,xC,xP,xA,xZ]
  refine callP (X5K f hf d hd) lL ?_
  cases h2 : okN d
  ·have : RD.ok ⟨b,m,d⟩ = false:=by
    show (bok b m && okN d && decide (d.length ≠ 0) && decide (d.length ≤ 24) && decide (m.length ≤ 24) && _) = false
    rw [h2]; simp
   rw [this]
   simp -dsimp(disch:=first|exact om|fail)only[go_sem,simprocAttr,xE,xN,xC,xP,xA,xZ]
  ·obtain ⟨n,e,rfl,rfl,hk⟩:=Y7n h1 h2
   rw [hk]
   by_cases h3 : (lim e).length = 0
   ·simp -dsimp(disch:=first|exact om|fail)only[go_sem,simprocAttr,xE,xN,xC,xP,xA,xZ,h3]
   ·by_cases h5 : (lim n).length ≤ 24
    ·by_cases h4 : (lim e).length ≤ 24
     ·simp -dsimp(disch:=first|exact om|fail)only[go_sem,simprocAttr,xE,xN,xC,xP,xA,xZ]
      refine callB' (Y8q f f hf hf n e (by omega) (by omega)) lB lF ?_
      simp -dsimp(disch:=first|exact om|fail)only[go_sem,simprocAttr,xE,xN,xC,xP,xA,xZ]
      rw [X9G]
      refine callP (Q5X .b .s flb fls (Nat.gcd n e) 1 (by have:=X4Z n e (Q0I.2 (by omega)); omega) (by rw [Q6s]; decide)) lL ?_
      simp -dsimp(disch:=first|exact om|fail)only[go_sem,simprocAttr,xE,xN,xC,xP,xA,xZ]
      simp [h3,h4,h5]
      exact Y8C
     ·simp -dsimp(disch:=first|exact om|fail)only[go_sem,simprocAttr,xE,xN,xC,xP,xA,xZ]
      simp [h4]
    ·simp -dsimp(disch:=first|exact om|fail)only[go_sem,simprocAttr,xE,xN,xC,xP,xA,xZ]
     simp [h5]
theorem Q5c (f g : Fl) (hf : f ≠ .u) (hg : g ≠ .u) (x y : Int) (hx : (lim x.natAbs).length ≤ 1000000) (hy : (lim y.natAbs).length ≤ 1000000) : PC PP Q5p [zV f x,zV g y] (zV .s (x + y)) []:=by
 refine tx X4i Q4u [] (by kernel_rfl) ?_
 simp -dsimp(disch:=first|exact om|fail)only[go_sem,simprocAttr,xE,xN,xC,xP,xA,xZ]
 refine callP (Q5X f g hf hg x.natAbs y.natAbs (by omega) (by omega)) lL ?_
 by_cases hs : zb x = zb y
 ·rw [hs]
  simp -dsimp(disch:=first|exact om|fail)only[go_sem,simprocAttr,xE,xN,xC,xP,xA,xZ,BEq.rfl]
  refine callP (Z4E f g hf hg x.natAbs y.natAbs (by omega) (by omega)) lL ?_
  simp -dsimp(disch:=first|exact om|fail)only[go_sem,simprocAttr,xE,xN,xC,xP,xA,xZ]
  refine callP (Q2T (x + y) (zb y) (x.natAbs + y.natAbs) (by rw [Y6K,Q1v,← hs,Q1v])) lL ?_
  simp -dsimp(disch:=first|exact om|fail)only[go_sem,simprocAttr,xE,xN,xC,xP,xA,xZ]
 ·have e : (zb x == zb y) = false:=by simpa using hs
  have key : x + y = sgn (zb x) x.natAbs + sgn (!zb x) y.natAbs:=by
   have : (!zb x) = zb y:=by cases h1 : zb x <;> cases h2 : zb y <;> simp [h1,h2] at hs ⊢
   rw [this,Q1v,Q1v]
  by_cases hc : y.natAbs ≤ x.natAbs
  ·have h1 : 0 ≤ cmpN x.natAbs y.natAbs:=Z0I.2 hc
   simp -dsimp(disch:=first|exact om|fail)only[go_sem,simprocAttr,xE,xN,xC,xP,xA,xZ,e]
   refine callP (Y7C f g hf hg x.natAbs y.natAbs hc (by omega)) lL ?_
   simp -dsimp(disch:=first|exact om|fail)only[go_sem,simprocAttr,xE,xN,xC,xP,xA,xZ]
   refine callP (Q2T (x + y) (zb x) (x.natAbs - y.natAbs) (by
    rw [key]; unfold sgn; cases zb x <;> simp <;> omega)) lW ?_
   simp -dsimp(disch:=first|exact om|fail)only[go_sem,simprocAttr,xE,xN,xC,xP,xA,xZ]
  ·have h1 : ¬ 0 ≤ cmpN x.natAbs y.natAbs:=by rw [X3X (by omega)]; decide
   simp -dsimp(disch:=first|exact om|fail)only[go_sem,simprocAttr,xE,xN,xC,xP,xA,xZ,e]
   refine callP (Y7C g f hg hf y.natAbs x.natAbs (by omega) (by omega)) lL ?_
   simp -dsimp(disch:=first|exact om|fail)only[go_sem,simprocAttr,xE,xN,xC,xP,xA,xZ]
   refine callP (Q2T (x + y) (zb y) (y.natAbs - x.natAbs) (by
    have : zb y = !zb x:=by cases h1 : zb x <;> cases h2 : zb y <;> simp [h1,h2] at hs ⊢
    rw [key,this]; unfold sgn; cases zb x <;> simp <;> omega)) lW ?_
   simp -dsimp(disch:=first|exact om|fail)only[go_sem,simprocAttr,xE,xN,xC,xP,xA,xZ]
theorem Q1U (f g : Fl) (hf : f ≠ .u) (hg : g ≠ .u) (x y : Int) (hx : (lim x.natAbs).length ≤ 1000000) (hy : (lim y.natAbs).length ≤ 1000000) : PC PP Q4K [zV f x,zV g y] (zV .s (x - y)) []:=by
 refine tx X2y Q3J [] (by kernel_rfl) ?_
 simp -dsimp(disch:=first|exact om|fail)only[go_sem,simprocAttr,xE,xN,xC,xP,xA,xZ]
 refine callB' (Y5G y g hg) lB lF ?_
 simp -dsimp(disch:=first|exact om|fail)only[go_sem,simprocAttr,xE,xN,xC,xP,xA,xZ]
 refine callP (Q5c f .b hf flb x (-y) hx (by rw [Int.natAbs_neg]; omega)) lL ?_
 simp -dsimp(disch:=first|exact om|fail)only[go_sem,simprocAttr,xE,xN,xC,xP,xA,xZ]
 rw [Int.sub_eq_add_neg]
 simp -dsimp(disch:=first|exact om|fail)only[go_sem,simprocAttr,xE,xN,xC,xP,xA,xZ]
theorem Q0A (f g : Fl) (hf : f ≠ .u) (hg : g ≠ .u) (x y : Int) (hx : (lim x.natAbs).length ≤ 1000000) (hy : (lim y.natAbs).length ≤ 1000000) : PC PP Q4J [zV f x,zV g y] (zV .s (x * y)) []:=by
 refine tx X2x Q3I [] (by kernel_rfl) ?_
 simp -dsimp(disch:=first|exact om|fail)only[go_sem,simprocAttr,xE,xN,xC,xP,xA,xZ]
 refine callP (X4J f g hf hg x.natAbs y.natAbs (by omega) (by omega)) lL ?_
 simp -dsimp(disch:=first|exact om|fail)only[go_sem,simprocAttr,xE,xN,xC,xP,xA,xZ]
 refine callP (Q2T (x * y) (zb x != zb y) (x.natAbs * y.natAbs) (Y4v x y)) lL ?_
 simp -dsimp(disch:=first|exact om|fail)only[go_sem,simprocAttr,xE,xN,xC,xP,xA,xZ]
theorem X6K (f g : Fl) (hf : f ≠ .u) (hg : g ≠ .u) (r : Rat) (n : Nat) (h1 : (lim r.num.natAbs).length ≤ 1000000) (h2 : (lim n).length ≤ 1000000) : PC PP Q4H [pR f r,sI g (lim n)] (zV .s (r.num * n)) []:=by
 refine tx X2v Q3G [] (by kernel_rfl) ?_
 simp -dsimp(disch:=first|exact om|fail)only[go_sem,simprocAttr,xE,xN,xC,xP,xA,xZ]
 refine callP (X4J f g hf hg r.num.natAbs n (by omega) (by omega)) lL ?_
 simp -dsimp(disch:=first|exact om|fail)only[go_sem,simprocAttr,xE,xN,xC,xP,xA,xZ]
 refine callP (Q2T (r.num * n) (zb r.num) (r.num.natAbs * n) (by rw [X2I,Q1v])) lL ?_
 simp -dsimp(disch:=first|exact om|fail)only[go_sem,simprocAttr,xE,xN,xC,xP,xA,xZ]
theorem Le.pRb {H : List Ob} {g : Fl} (hg : g ≠ .u) (r : Rat) : Le H .b (pR g r) (pR g r):=by
 cases g with
 | s=>exact .ptr _ _ _ _ (.inl rfl) lW
 | b=>exact .ptr _ _ _ _ ⟨rfl,rfl⟩ lW
 | u=>exact absurd rfl hg
theorem Le.pRs {H : List Ob} {f : Fl} (r : Rat) : Le H f (pR .s r) (pR .s r):=.ptr _ _ _ _ (.inl rfl) lW
@[go_sem] theorem le_pR {H : List Ob} {g : Fl} {r : Rat} (hg : g ≠ .u) : Le H .b (pR g r) (pR g r) = True:=eq_true (Le.pRb hg r)
@[go_sem] theorem J2b {H : List Ob} {f : Fl} {r : Rat} : Le H f (pR .s r) (pR .s r) = True:=eq_true (Le.pRs r)
@[go_sem] theorem le_pQ {H : List Ob} {g : Fl} {x : FQ} (hg : g ≠ .u) : Le H .b (pQ g x) (pQ g x) = True:=by
 apply eq_true; unfold pQ; split
 ·exact .lit _
 ·exact Le.pRb hg _
@[go_sem] theorem Z5d {H : List Ob} {f : Fl} {x : FQ} : Le H f (pQ .s x) (pQ .s x) = True:=by
 apply eq_true; unfold pQ; split
 ·exact .lit _
 ·exact Le.pRs _
theorem Le.refR {H : List Ob} {f : Fl} {id off : Nat} {ty : TypeId} {cs : List V} {r : Rat} (h : H[id]? = some ⟨.own,ty,cs⟩) (e : LeL H f (cs.drop off) (rtC f r)) : Le H f (.ref id off) (pR f r):=.ref id off _ _ h (.inl rfl) e
theorem X9O (z : Int) (d : Nat) (hd : d ≠ 0) : (mkRat z d).num = sgn (zb z) (z.natAbs / Nat.gcd z.natAbs d) ∧ (mkRat z d).den = d / Nat.gcd z.natAbs d:=by
 have:=Y2t (zb z) z.natAbs d hd
 rwa [Q1v] at this
theorem X6N (z : Int) (d : Nat) (hd : 0 < d) (h1 : (lim z.natAbs).length ≤ 1000000) (h2 : (lim d).length ≤ 1000000) : PC PP X4F [zV .s z,sI .s (lim d)] (pR .s (mkRat z d)) []:=by
  refine tx Y1R X1o [] (by kernel_rfl) ?_
  obtain ⟨e1,e2⟩:=X9O z d (by omega)
  by_cases h0 : z = 0
  · subst h0
    have e3 : mkRat 0 d = 0:=by rw [Rat.zero_mkRat]
    rw [e3]
    have l0 : lim (Int.natAbs 0) = []:=Q0k
    simp -dsimp(disch:=first|exact om|fail)only[go_sem,↓reduceIte,Nat.reduceEqDiff,Nat.reduceAdd,Nat.reduceSub,Nat.reduceMul,Nat.reduceLT,Nat.reduceLeDiff,reduceCtorEq,xE,xN,xC,xP,xA,xZ,Int.reduceToNat,l0,X9G]
    exact Le.refR rfl (by show LeL _ _ _ [Bo (zb 0),sI .s (lim 0),sI .s (lim 1)]; simp -dsimp(disch:=first|exact om|fail)only[go_sem,↓reduceIte,Nat.reduceEqDiff,Nat.reduceAdd,Nat.reduceSub,Nat.reduceMul,Nat.reduceLT,Nat.reduceLeDiff,reduceCtorEq,xE,xN,xC,xP,xA,xZ,Int.reduceToNat,Q0k]; rfl)
  · have hz : 0 < z.natAbs:=by omega
    have hl:=Q0I.1 hz
    have hg0 : 0 < Nat.gcd z.natAbs d:=Nat.gcd_pos_of_pos_right _ hd
    have hgl:=X4Z z.natAbs d hd
    simp -dsimp(disch:=first|exact om|fail)only[go_sem,↓reduceIte,Nat.reduceEqDiff,Nat.reduceAdd,Nat.reduceSub,Nat.reduceMul,Nat.reduceLT,Nat.reduceLeDiff,reduceCtorEq,xE,xN,xC,xP,xA,xZ,Int.reduceToNat]
    refine callP (Y8p z.natAbs d (by omega) (by omega)) lL ?_
    simp -dsimp(disch:=first|exact om|fail)only[go_sem,↓reduceIte,Nat.reduceEqDiff,Nat.reduceAdd,Nat.reduceSub,Nat.reduceMul,Nat.reduceLT,Nat.reduceLeDiff,reduceCtorEq,xE,xN,xC,xP,xA,xZ,Int.reduceToNat,X9G]
    refine callP (Q5X .s .s fls fls (Nat.gcd z.natAbs d) 1 (by omega) (by rw [Q6s]; decide)) lL ?_
    by_cases h3 : Nat.gcd z.natAbs d = 1
    · have h4 : cmpN (Nat.gcd z.natAbs d) 1 = 0:=Y8C.2 h3
      rw [h3,Nat.div_one,Q1v] at e1
      rw [h3,Nat.div_one] at e2
      simp -dsimp(disch:=first|exact om|fail)only[go_sem,↓reduceIte,Nat.reduceEqDiff,Nat.reduceAdd,Nat.reduceSub,Nat.reduceMul,Nat.reduceLT,Nat.reduceLeDiff,reduceCtorEq,xE,xN,xC,xP,xA,xZ,Int.reduceToNat,h4]
      exact Le.refR rfl (by rw [Z4m,e1,e2]; simp -dsimp(disch:=first|exact om|fail)only[go_sem,↓reduceIte,Nat.reduceEqDiff,Nat.reduceAdd,Nat.reduceSub,Nat.reduceMul,Nat.reduceLT,Nat.reduceLeDiff,reduceCtorEq,xE,xN,xC,xP,xA,xZ,Int.reduceToNat])
    · have h4 : ¬ cmpN (Nat.gcd z.natAbs d) 1 = 0:=fun h=>h3 (Y8C.1 h)
      simp -dsimp(disch:=first|exact om|fail)only[go_sem,↓reduceIte,Nat.reduceEqDiff,Nat.reduceAdd,Nat.reduceSub,Nat.reduceMul,Nat.reduceLT,Nat.reduceLeDiff,reduceCtorEq,xE,xN,xC,xP,xA,xZ,Int.reduceToNat,h4]
      refine callP (Y2p .s .s fls fls z.natAbs (Nat.gcd z.natAbs d) hg0 (by omega) (by omega)) lL ?_
      simp -dsimp(disch:=first|exact om|fail)only[go_sem,↓reduceIte,Nat.reduceEqDiff,Nat.reduceAdd,Nat.reduceSub,Nat.reduceMul,Nat.reduceLT,Nat.reduceLeDiff,reduceCtorEq,xE,xN,xC,xP,xA,xZ,Int.reduceToNat]
      refine callP (Y2p .s .s fls fls d (Nat.gcd z.natAbs d) hg0 (by omega) (by omega)) lL ?_
      simp -dsimp(disch:=first|exact om|fail)only[go_sem,↓reduceIte,Nat.reduceEqDiff,Nat.reduceAdd,Nat.reduceSub,Nat.reduceMul,Nat.reduceLT,Nat.reduceLeDiff,reduceCtorEq,xE,xN,xC,xP,xA,xZ,Int.reduceToNat]
      refine callP (Q2T (mkRat z d).num (zb z) (z.natAbs / Nat.gcd z.natAbs d) e1.symm) lL ?_
      rw [← e2]
      simp -dsimp(disch:=first|exact om|fail)only[go_sem,↓reduceIte,Nat.reduceEqDiff,Nat.reduceAdd,Nat.reduceSub,Nat.reduceMul,Nat.reduceLT,Nat.reduceLeDiff,reduceCtorEq,xE,xN,xC,xP,xA,xZ,Int.reduceToNat]
theorem X0a {a b k : Nat} (ha : (lim a).length ≤ k) (hb : (lim b).length ≤ k) : (lim (a + b)).length ≤ k + 1:=by
 rw [Q0d] at *
 rw [Int.pow_succ]
 generalize (1000000000 : Int) ^ k = P at *
 omega
theorem Y2i (f g : Fl) (hf : f ≠ .u) (hg : g ≠ .u) (r s : Rat) (h1 : (lim r.num.natAbs).length ≤ 1000) (h2 : (lim r.den).length ≤ 1000) (h3 : (lim s.num.natAbs).length ≤ 1000) (h4 : (lim s.den).length ≤ 1000) : PC PP Q6j [pR f r,pR g s] (pR .s (r + s)) []:=by
 refine tx X5r Q4Z [] (by kernel_rfl) ?_
 simp -dsimp(disch:=first|exact om|fail)only[go_sem,simprocAttr,xE,xN,xC,xP,xA,xZ]
 refine callP (X6K f g hf hg r s.den (by omega) (by omega)) lL ?_
 simp -dsimp(disch:=first|exact om|fail)only[go_sem,simprocAttr,xE,xN,xC,xP,xA,xZ]
 refine callP (X6K g f hg hf s r.den (by omega) (by omega)) lL ?_
 simp -dsimp(disch:=first|exact om|fail)only[go_sem,simprocAttr,xE,xN,xC,xP,xA,xZ]
 have m1:=Q0l (a:=r.num.natAbs) (d:=s.den)
 have m2:=Q0l (a:=s.num.natAbs) (d:=r.den)
 have m3:=Q0l (a:=r.den) (d:=s.den)
 rw [Q6q] at m1 m2
 refine callP (Q5c .s .s fls fls (r.num * s.den) (s.num * r.den) (by omega) (by omega)) lL ?_
 simp -dsimp(disch:=first|exact om|fail)only[go_sem,simprocAttr,xE,xN,xC,xP,xA,xZ]
 refine callP (X4J f g hf hg r.den s.den (by omega) (by omega)) lL ?_
 simp -dsimp(disch:=first|exact om|fail)only[go_sem,simprocAttr,xE,xN,xC,xP,xA,xZ]
 have hl : (lim (r.num * s.den + s.num * r.den).natAbs).length ≤ 1000000:=by
  have h5:=Q0e (Int.natAbs_add_le (r.num * s.den) (s.num * r.den))
  have h8:=X0a (a:=(r.num * s.den).natAbs) (b:=(s.num * r.den).natAbs) (k:=2000) (by omega) (by omega)
  omega
 refine callP (X6N (r.num * s.den + s.num * r.den) (r.den * s.den) (Nat.mul_pos r.den_pos s.den_pos) hl (by omega)) lL ?_
 have e : mkRat (r.num * s.den + s.num * r.den) (r.den * s.den) = r + s:=by rw [Rat.add_def,Rat.normalize_eq_mkRat]
 rw [e]
 simp -dsimp(disch:=first|exact om|fail)only[go_sem,simprocAttr,xE,xN,xC,xP,xA,xZ]
theorem Y0E (f g : Fl) (hf : f ≠ .u) (hg : g ≠ .u) (r s : Rat) (h1 : (lim r.num.natAbs).length ≤ 1000) (h2 : (lim r.den).length ≤ 1000) (h3 : (lim s.num.natAbs).length ≤ 1000) (h4 : (lim s.den).length ≤ 1000) : PC PP Q5m [pR f r,pR g s] (pR .s (r - s)) []:=by
 refine tx X4g Q4r [] (by kernel_rfl) ?_
 simp -dsimp(disch:=first|exact om|fail)only[go_sem,simprocAttr,xE,xN,xC,xP,xA,xZ]
 refine callP (X6K f g hf hg r s.den (by omega) (by omega)) lL ?_
 simp -dsimp(disch:=first|exact om|fail)only[go_sem,simprocAttr,xE,xN,xC,xP,xA,xZ]
 refine callP (X6K g f hg hf s r.den (by omega) (by omega)) lL ?_
 simp -dsimp(disch:=first|exact om|fail)only[go_sem,simprocAttr,xE,xN,xC,xP,xA,xZ]
 have m1:=Q0l (a:=r.num.natAbs) (d:=s.den)
 have m2:=Q0l (a:=s.num.natAbs) (d:=r.den)
 have m3:=Q0l (a:=r.den) (d:=s.den)
 rw [Q6q] at m1 m2
 refine callP (Q1U .s .s fls fls (r.num * s.den) (s.num * r.den) (by omega) (by omega)) lL ?_
 simp -dsimp(disch:=first|exact om|fail)only[go_sem,simprocAttr,xE,xN,xC,xP,xA,xZ]
 refine callP (X4J f g hf hg r.den s.den (by omega) (by omega)) lL ?_
 simp -dsimp(disch:=first|exact om|fail)only[go_sem,simprocAttr,xE,xN,xC,xP,xA,xZ]
 have hl : (lim (r.num * s.den - s.num * r.den).natAbs).length ≤ 1000000:=by
  have h5:=Q0e (Int.natAbs_sub_le (r.num * s.den) (s.num * r.den))
  have h8:=X0a (a:=(r.num * s.den).natAbs) (b:=(s.num * r.den).natAbs) (k:=2000) (by omega) (by omega)
  omega
 refine callP (X6N (r.num * s.den - s.num * r.den) (r.den * s.den) (Nat.mul_pos r.den_pos s.den_pos) hl (by omega)) lL ?_
 have e : mkRat (r.num * s.den - s.num * r.den) (r.den * s.den) = r - s:=by rw [Rat.sub_def,Rat.normalize_eq_mkRat]
 rw [e]
 simp -dsimp(disch:=first|exact om|fail)only[go_sem,simprocAttr,xE,xN,xC,xP,xA,xZ]
theorem Y0D (f g : Fl) (hf : f ≠ .u) (hg : g ≠ .u) (r s : Rat) (h1 : (lim r.num.natAbs).length ≤ 1000) (h2 : (lim r.den).length ≤ 1000) (h3 : (lim s.num.natAbs).length ≤ 1000) (h4 : (lim s.den).length ≤ 1000) : PC PP Q5l [pR f r,pR g s] (pR .s (r * s)) []:=by
 refine tx X4f Q4q [] (by kernel_rfl) ?_
 have m1:=Q0l (a:=r.num.natAbs) (d:=s.num.natAbs)
 rw [← Int.natAbs_mul] at m1
 have m3:=Q0l (a:=r.den) (d:=s.den)
 simp -dsimp(disch:=first|exact om|fail)only[go_sem,simprocAttr,xE,xN,xC,xP,xA,xZ]
 refine callP (Q0A f g hf hg r.num s.num (by omega) (by omega)) lL ?_
 simp -dsimp(disch:=first|exact om|fail)only[go_sem,simprocAttr,xE,xN,xC,xP,xA,xZ]
 refine callP (X4J f g hf hg r.den s.den (by omega) (by omega)) lL ?_
 simp -dsimp(disch:=first|exact om|fail)only[go_sem,simprocAttr,xE,xN,xC,xP,xA,xZ]
 refine callP (X6N (r.num * s.num) (r.den * s.den) (Nat.mul_pos r.den_pos s.den_pos) (by omega) (by omega)) lL ?_
 have e : mkRat (r.num * s.num) (r.den * s.den) = r * s:=by rw [Rat.mul_def,Rat.normalize_eq_mkRat]
 rw [e]
 simp -dsimp(disch:=first|exact om|fail)only[go_sem,simprocAttr,xE,xN,xC,xP,xA,xZ]
theorem Z4G (f : Fl) (r : Rat) : pQ f (FQ.fit r) = if (lim r.num.natAbs).length ≤ 24 ∧ (lim r.den).length ≤ 24 then pR f r else .lit (.pointer none):=by
 unfold FQ.fit
 by_cases h : (lim r.num.natAbs).length ≤ 24 ∧ (lim r.den).length ≤ 24
 ·rw [dif_pos h,if_pos h]; rfl
 ·rw [dif_neg h,if_neg h]; rfl
theorem fit_c (r : Rat) (h1 : (lim r.num.natAbs).length ≤ 1000000) (h2 : (lim r.den).length ≤ 1000000) : PC PP Y0h [pR .s r] (pQ .s (FQ.fit r)) []:=by
 refine tx Y6f X7J [] (by kernel_rfl) ?_
 rw [Z4G]
 by_cases a : (lim r.num.natAbs).length ≤ 24
 ·by_cases b : (lim r.den).length ≤ 24
  ·rw [if_pos ⟨a,b⟩]; simp -dsimp(disch:=first|exact om|fail)only[go_sem,simprocAttr,xE,xN,xC,xP,xA,xZ]
  ·rw [if_neg (fun h=>b h.2)]; simp -dsimp(disch:=first|exact om|fail)only[go_sem,simprocAttr,xE,xN,xC,xP,xA,xZ]
 ·rw [if_neg (fun h=>a h.1)]; simp -dsimp(disch:=first|exact om|fail)only[go_sem,simprocAttr,xE,xN,xC,xP,xA,xZ]
theorem Z1l {r s t : Rat} (h1 : (lim r.num.natAbs).length ≤ 24 ∧ (lim r.den).length ≤ 24) (h2 : (lim s.num.natAbs).length ≤ 24 ∧ (lim s.den).length ≤ 24) {z : Int} (e : t = mkRat z (r.den * s.den)) (hz : (lim z.natAbs).length ≤ 60) : (lim t.num.natAbs).length ≤ 1000000 ∧ (lim t.den).length ≤ 1000000:=by
 subst e
 obtain ⟨e1,e2⟩:=X9O z (r.den * s.den) (Nat.ne_of_gt (Nat.mul_pos r.den_pos s.den_pos))
 rw [e1,e2,Q1E]
 have m3:=Q0l (a:=r.den) (d:=s.den)
 have d1:=X9S z.natAbs (Nat.gcd z.natAbs (r.den * s.den))
 have d2:=X9S (r.den * s.den) (Nat.gcd z.natAbs (r.den * s.den))
 omega
theorem sub_c (f g : Fl) (hf : f ≠ .u) (hg : g ≠ .u) (x y : FQ) : PC PP Q6i [pQ f x,pQ g y] (pQ .s (x.sub y)) []:=by
 obtain ⟨x,hx⟩:=x
 obtain ⟨y,hy⟩:=y
 cases x with
 | none =>
  show PC PP Q6i [.lit (.pointer none),pQ g ⟨y,hy⟩] (.lit (.pointer none)) []
  refine tx X5q Q6w [] (by kernel_rfl) ?_
  simp -dsimp(disch:=first|exact om|fail)only[go_sem,simprocAttr,xE,xN,xC,xP,xA,xZ]
 | some r =>
  cases y with
  | none =>
   show PC PP Q6i [pR f r,.lit (.pointer none)] (.lit (.pointer none)) []
   refine tx X5q Q6w [] (by kernel_rfl) ?_
   simp -dsimp(disch:=first|exact om|fail)only[go_sem,simprocAttr,xE,xN,xC,xP,xA,xZ]
  | some s =>
   show PC PP Q6i [pR f r,pR g s] (pQ .s (FQ.fit (r - s))) []
   have h1:=hx r rfl
   have h2:=hy s rfl
   obtain ⟨l1,l2⟩:=Z1l (t:=r - s) h1 h2 (z:=r.num * s.den - s.num * r.den) (by rw [Rat.sub_def,Rat.normalize_eq_mkRat]) (by
    have m1:=Q0l (a:=r.num.natAbs) (d:=s.den)
    have m2:=Q0l (a:=s.num.natAbs) (d:=r.den)
    rw [Q6q] at m1 m2
    have h5:=Q0e (Int.natAbs_sub_le (r.num * s.den) (s.num * r.den))
    have h8:=X0a (a:=(r.num * s.den).natAbs) (b:=(s.num * r.den).natAbs) (k:=50) (by omega) (by omega)
    omega)
   refine tx X5q Q6w [] (by kernel_rfl) ?_
   simp -dsimp(disch:=first|exact om|fail)only[go_sem,simprocAttr,xE,xN,xC,xP,xA,xZ]
   refine callP (Y0E f g hf hg r s (by omega) (by omega) (by omega) (by omega)) lL ?_
   simp -dsimp(disch:=first|exact om|fail)only[go_sem,simprocAttr,xE,xN,xC,xP,xA,xZ]
   refine callP (fit_c (r - s) l1 l2) lL ?_
   simp -dsimp(disch:=first|exact om|fail)only[go_sem,simprocAttr,xE,xN,xC,xP,xA,xZ]
theorem Z5c (f : Fl) (hf : f ≠ .u) (r : RD) (hr : r.small) : PB PP X8J [rV f r] (pQ .b (rdq r)) []:=by
 refine txb Y4b X5I [] [] [] (by kernel_rfl) ?_
 simp -dsimp(disch:=first|exact om|fail)only[go_sem,simprocAttr,xE,xN,xC,xP,xA,xZ]
 refine callP (Y2w f hf r hr) lL ?_
 cases h1 : r.ok
 ·rw [X4U h1,Z4H]
  simp -dsimp(disch:=first|exact om|fail)only[go_sem,simprocAttr,xE,xN,xC,xP,xA,xZ]
  exact RtB.nothing [] (by decide) trivial lW
 ·obtain ⟨x,rfl,hx⟩:=ok_qd h1
  rw [Q6J]
  obtain ⟨x,hok⟩:=x
  cases x with
  | none=>cases hx
  | some q =>
   simp -dsimp(disch:=first|exact om|fail)only[go_sem,simprocAttr,xE,xN,xC,xP,xA,xZ]
   refine RtB.shareb (cs:=rtC f q) (cs':=rtC .b q) 1 rfl lW lW lW ?_
   exact RtB.nothing [] (by decide) trivial (of_eq_true (Z1g lW))
theorem PC.nilO {f : FuncId} {r : V} {objs : List Ob} {fl : Fl} (hf : fl ≠ .u) (h : ∀ (a : Option Addr) (c : Nat),c ≤ maxLen → PC PP f [.lit (.slice a 0 c)] r objs) : PC PP f [.sl fl 1 0 []] r objs:=by
 refine ⟨(h none 0 (by decide)).1,fun w S B xs hb hr=>?_⟩
 obtain ⟨x,xs',u1,u2,rfl,e2,e3,e4,e5⟩:=hr
 subst e4
 obtain ⟨a,c,rfl,_,hc,_⟩:=e3
 exact (h a c hc).2 w S B _ hb ⟨_,_,[],[],rfl,rfl,⟨rfl,rfl,rfl⟩,rfl,rfl⟩
theorem Y8L (f : Fl) (hf : f ≠ .u) (l : List Int) (hl : l.length ≤ 1048576) : GC PP Q1t [sI f l] [] (.rsl 0 1 0 l.length) [⟨.own,T_int,iC l⟩]:=by
 by_cases h0 : l.length = 0
 ·obtain rfl:=List.eq_nil_of_length_eq_zero h0
  refine PC.gc (PC.nilO hf fun a c hc=>GC.pc ?_)
  cases a with
  | none =>
   refine txg Q0x Q0s 0 [] [] [] rfl (by kernel_rfl) ?_
   simp -dsimp(disch:=first|exact om|fail)only[go_sem,simprocAttr,xE,xN,xC,xP,xA,xZ,Option.isNone_none]
   exact RtG.ren [none] [[]] trivial (by decide) (by simp -dsimp only [go_sem,simprocAttr]; simp [iC]) (by simp -dsimp only [go_sem,simprocAttr])
  | some a =>
   refine txg Q0x Q0s 0 [] [3] [] rfl (by kernel_rfl) ?_
   simp -dsimp(disch:=first|exact om|fail)only[go_sem,simprocAttr,xE,xN,xC,xP,xA,xZ,Option.isNone_some]
   refine ⟨⟨[(0,.sl .b 1 0 [])],[]⟩,StI.var ?_, ?_⟩
   ·intro t v ht
    by_cases e : t = 0
    ·subst e
     obtain rfl : V.sl .b 1 0 [] = v:=Option.some.inj ht
     refine ⟨_,rfl, ?_⟩
     rintro w S B κ x ⟨_,rfl,_⟩
     exact ⟨_,_,rfl,Nat.zero_le _,hc,rfl,.inl ⟨rfl,rfl,by intro h; cases h⟩⟩
    ·have e' : (t == 0) = false:=by simpa using e
     simp only [List.lookup,e'] at ht
     cases ht
   ·simp -dsimp(disch:=first|exact om|fail)only[go_sem,simprocAttr,xE,xN,xC,xP,xA,xZ]
    exact RtG.nothing [some 0] trivial (by decide) (by simp -dsimp only [go_sem,simprocAttr]; exact RnL.nil _ _) lW
 ·have : 0 < l.length:=by omega
  refine txg Q0x Q0s 0 [] [] [] rfl (by kernel_rfl) ?_
  simp -dsimp(disch:=first|exact om|fail)only[go_sem,simprocAttr,xE,xN,xC,xP,xA,xZ]
  exact RtG.nothing [some 0] lE (by decide) lS lE
theorem Z1T (f : Fl) (hf : f ≠ .u) (z : Int) (hz : (lim z.natAbs).length ≤ 60) : GC PP Q4L [zV f z] [] (.agg [Bo (zb z),.rsl 0 1 0 (lim z.natAbs).length]) [⟨.own,T_int,iC (lim z.natAbs)⟩]:=by
 refine txg X2z Q3K 0 [] [] [] rfl (by kernel_rfl) ?_
 simp -dsimp(disch:=first|exact om|fail)only[go_sem,simprocAttr,xE,xN,xC,xP,xA,xZ]
 refine callO' (Y8L f hf (lim z.natAbs) (by omega)) lL lF ?_
 simp -dsimp(disch:=first|exact om|fail)only[go_sem,simprocAttr,xE,xN,xC,xP,xA,xZ]
 exact RtG.nothing [some 2] lE (by decide) lS lE
theorem Y3j (f : Fl) (hf : f ≠ .u) (x : FQ) : GC PP Q5k [pQ f x] [] (rO (qd x)) (rH (qd x)):=by
 obtain ⟨x,hx⟩:=x
 cases x with
 | none =>
  show GC PP Q5k [.lit (.pointer none)] [] (rO (qd FQ.bad)) (rH (qd FQ.bad))
  rw [Q4S]
  refine txg X5V Q6x 0 [] [] [] rfl (by kernel_rfl) ?_
  simp -dsimp(disch:=first|exact om|fail)only[go_sem,simprocAttr,xE,xN,xC,xP,xA,xZ]
  exact RtG.ren [none,none] [[],[]] trivial (by decide) (by simp -dsimp only [go_sem,simprocAttr]; simp [iC]) lW
 | some r =>
  have h1:=hx r rfl
  show GC PP Q5k [pR f r] [] (.agg [Bo (zb r.num),.rsl 0 1 0 (lim r.num.natAbs).length,.rsl 1 1 0 (lim r.den).length]) [⟨.own,T_int,iC (lim r.num.natAbs)⟩,⟨.own,T_int,iC (lim r.den)⟩]
  refine txg X5V Q6x 0 [] [] [] rfl (by kernel_rfl) ?_
  simp -dsimp(disch:=first|exact om|fail)only[go_sem,simprocAttr,xE,xN,xC,xP,xA,xZ]
  refine callO' (Z1T f hf r.num (by omega)) lL lF ?_
  simp -dsimp(disch:=first|exact om|fail)only[go_sem,simprocAttr,xE,xN,xC,xP,xA,xZ]
  refine callO' (Y8L f hf (lim r.den) (by omega)) lL lF ?_
  simp -dsimp(disch:=first|exact om|fail)only[go_sem,simprocAttr,xE,xN,xC,xP,xA,xZ]
  exact RtG.nothing [some 1,some 2] lE (by decide) lS lE
end Go.Proofs.YtchlpclgkhggeaaGreat