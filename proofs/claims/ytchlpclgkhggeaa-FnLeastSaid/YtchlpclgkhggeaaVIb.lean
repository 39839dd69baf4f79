/- part of the proof -/
import Derived.Test.YtchlpclgkhggeaaVIa
namespace Go.Proofs.Ytchlpclgkhggeaa
open Go Go.RowKit
set_option maxRecDepth 100000
set_option maxHeartbeats 1600000
set_option linter.unusedVariables false
set_option linter.unusedSimpArgs false
abbrev zV (f : Fl) (z : Int) : V:=.agg (bC f (zb z) (lim z.natAbs))
def rtC (f : Fl) (r : Rat) : List V:=[Bo (zb r.num),sI f (lim r.num.natAbs),sI f (lim r.den)]
@[go_sem] theorem Y3e {f : Fl} {r : Rat} : rtC f r = [Bo (zb r.num),sI f (lim r.num.natAbs),sI f (lim r.den)]:=(rfl)
abbrev pR (f : Fl) (r : Rat) : V:=.ptr f (rtC f r)
def pQ (f : Fl) (x : FQ) : V:=match x.1 with
 | none=>.lit (.pointer none)
 | some r=>pR f r
theorem Y3y {f : Fl} : pQ f FQ.bad = .lit (.pointer none):=rfl
theorem Q7H (f : Fl) (x : FQ) : pQ f x = .lit (.pointer none) ∨ ∃ r,pQ f x = pR f r:=by
 unfold pQ; split
 ·exact .inl rfl
 ·exact .inr ⟨_,rfl⟩
@[go_sem] theorem Y6S {f : Fl} {x : FQ} : V.cells (pQ f x) = some [pQ f x]:=by
 rcases Q7H f x with h | ⟨r,h⟩ <;> rw [h] <;> rfl
@[go_sem] theorem Y9m {f : Fl} {x : FQ} : V.cell (pQ f x) = True:=by
 rcases Q7H f x with h | ⟨r,h⟩ <;> rw [h] <;> rfl
@[go_sem] theorem Y0B {f : Fl} {x : FQ} : V.flat (pQ f x) = True:=by
 rcases Q7H f x with h | ⟨r,h⟩ <;> rw [h] <;> rfl
@[go_sem] theorem nu_pQ {f : Fl} {x : FQ} (hf : f ≠ .u) : V.nu (pQ f x) = True:=by
 rcases Q7H f x with h | ⟨r,h⟩ <;> rw [h]
 ·rfl
 ·cases f
  ·rfl
  ·rfl
  ·exact absurd rfl hf
@[go_sem] theorem X6g {H : List Ob} {js : List (Option Nat)} {f : Fl} {sz n : Nat} {cs : List V} (hf : f ≠ .u) : Rn H js true (.sl f sz n cs) (.sl .b sz n cs) [] = True:=eq_true (Rn.lent hf)
theorem X7B {a b : Nat} : cmpN a b = 0 ↔ a = b:=by
 unfold cmpN
 split
 ·omega
 ·split <;> omega
theorem Q2n (z : Int) (b : Bool) (n : Nat) (e : sgn b n = z) : PC PP Q4T [Bo b,sI .s (lim n)] (zV .s z) []:=by
 subst e
 rw [zV,Q3d,X5F]
 refine tx Q8n Q4g [] (by kernel_rfl) ?_
 simp -dsimp(disch:=first|exact om|fail)only[go_sem,simprocAttr,xE,xN,xC,xP,xA,xZ]
 have:=@Q1w n
 refine ⟨fun h=>?_,fun h=>by rw [h]; rfl⟩
 rw [h,Bool.true_and]
 apply decide_eq_decide.2
 constructor
 ·intro h; exact this.2 (by omega)
 ·intro h; have:=this.1 h; omega
theorem X8l (z : Int) (b : Bool) (n : Nat) (f : Fl) (hf : f ≠ .u) (e : sgn b n = z) : PB PP Q4T [Bo b,sI f (lim n)] (zV .b z) []:=by
 subst e
 rw [zV,Q3d,X5F]
 refine txb Q8n Q4g [] [] [] (by kernel_rfl) ?_
 simp -dsimp(disch:=first|exact om|fail)only[go_sem,simprocAttr,xE,xN,xC,xP,xA,xZ]
 have:=@Q1w n
 have e : decide (0 < ((lim n).length : Int)) = decide (0 < n):=by
  apply decide_eq_decide.2
  constructor
  ·intro h; exact this.2 (by omega)
  ·intro h; have:=this.1 h; omega
 rw [e]
 refine ⟨fun h=>?_,fun h=>?_⟩
 ·rw [h,Bool.true_and]; exact RtB.nothing [] (by decide) trivial (by simp -dsimp(disch:=first|exact om|fail)only[go_sem,simprocAttr,xE,xN,xC,xP,xA,xZ,X6g])
 ·rw [h,Bool.false_and]; exact RtB.nothing [] (by decide) trivial (by simp -dsimp(disch:=first|exact om|fail)only[go_sem,simprocAttr,xE,xN,xC,xP,xA,xZ,X6g])
theorem X5n (z : Int) (f : Fl) (hf : f ≠ .u) : PB PP Q1a [zV f z] (zV .b (-z)) []:=by
 refine txb Q2h Q0S [] [] [] (by kernel_rfl) ?_
 simp -dsimp(disch:=first|exact om|fail)only[go_sem,simprocAttr,xE,xN,xC,xP,xA,xZ]
 refine callB' (X8l (-z) (!zb z) z.natAbs f hf (X5Y z)) lB lF ?_
 simp -dsimp(disch:=first|exact om|fail)only[go_sem,simprocAttr,xE,xN,xC,xP,xA,xZ]
 exact RtB.nothing [] (by decide) trivial (by simp -dsimp(disch:=first|exact om|fail)only[go_sem,simprocAttr,xE,xN,xC,xP,xA,xZ,X6g])
theorem X0j (f : Fl) (hf : f ≠ .u) (b : Bool) (m : List Int) (hm : m.length ≤ 1048576) : PC PP Q6k [.agg (bC f b m)] (Bo (bok b m)) []:=by
 refine tx X0E Q5d [] (by kernel_rfl) ?_
 simp -dsimp(disch:=first|exact om|fail)only[go_sem,simprocAttr,xE,xN,xC,xP,xA,xZ]
 refine callP (Q9i f hf m hm) lL ?_
 unfold bok
 cases h1 : okN m
 ·simp -dsimp(disch:=first|exact om|fail)only[go_sem,simprocAttr,xE,xN,xC,xP,xA,xZ]
 ·cases b
  ·simp -dsimp(disch:=first|exact om|fail)only[go_sem,simprocAttr,xE,xN,xC,xP,xA,xZ]
  ·by_cases h2 : m.length = 0
   ·simp -dsimp(disch:=first|exact om|fail)only[go_sem,simprocAttr,xE,xN,xC,xP,xA,xZ,h2]
   ·simp -dsimp(disch:=first|exact om|fail)only[go_sem,simprocAttr,xE,xN,xC,xP,xA,xZ]
    simp [h2]
theorem X2T (f : Fl) (hf : f ≠ .u) (r : RD) (hr : r.small) : PC PP Q9u [rV f r] (Bo r.ok) []:=by
 obtain ⟨b,m,d⟩:=r
 obtain ⟨hm,hd⟩:=hr
 simp only at hm hd
 refine tx X3s Q7V [] (by kernel_rfl) ?_
 simp -dsimp(disch:=first|exact om|fail)only[go_sem,simprocAttr,xE,xN,xC,xP,xA,xZ]
 refine callP (X0j f hf b m hm) lL ?_
 cases h1 : bok b m
 ·have : RD.ok ⟨b,m,d⟩ = false:=by
   show (bok b m && okN d && decide (d.length ≠ 0) && decide (d.length ≤ 24) && decide (m.length ≤ 24) && _) = false
   rw [h1]; simp
  rw [this]
  simp -dsimp(disch:=first|exact om|fail)only[go_sem,simprocAttr,xE,xN,xC,xP,xA,xZ]
 ·simp -dsimp(disch:=first|exact om|fail)only[go_sem,simprocAttr,xE,xN,xC,xP,xA,xZ]
  refine callP (Q9i f hf d hd) lL ?_
  cases h2 : okN d
  ·have : RD.ok ⟨b,m,d⟩ = false:=by
    show (bok b m && okN d && decide (d.length ≠ 0) && decide (d.length ≤ 24) && decide (m.length ≤ 24) && _) = false
    rw [h2]; simp
   rw [this]
   simp -dsimp(disch:=first|exact om|fail)only[go_sem,simprocAttr,xE,xN,xC,xP,xA,xZ]
  ·obtain ⟨n,e,rfl,rfl,hk⟩:=Y0g h1 h2
   rw [hk]
   by_cases h3 : (lim e).length = 0
   ·simp -dsimp(disch:=first|exact om|fail)only[go_sem,simprocAttr,xE,xN,xC,xP,xA,xZ,h3]
   ·by_cases h5 : (lim n).length ≤ 24
    ·by_cases h4 : (lim e).length ≤ 24
     ·simp -dsimp(disch:=first|exact om|fail)only[go_sem,simprocAttr,xE,xN,xC,xP,xA,xZ]
      refine callB' (X7t f f hf hf n e (by omega) (by omega)) lB lF ?_
      simp -dsimp(disch:=first|exact om|fail)only[go_sem,simprocAttr,xE,xN,xC,xP,xA,xZ]
      rw [X4u]
      refine callP (Q4A .b .s flb fls (Nat.gcd n e) 1 (by have:=X1n n e (Q1w.2 (by omega)); omega) (by rw [Q7Q]; decide)) lL ?_
      simp -dsimp(disch:=first|exact om|fail)only[go_sem,simprocAttr,xE,xN,xC,xP,xA,xZ]
      simp [h3,h4,h5]
      exact X7B
     ·simp -dsimp(disch:=first|exact om|fail)only[go_sem,simprocAttr,xE,xN,xC,xP,xA,xZ]
      simp [h4]
    ·simp -dsimp(disch:=first|exact om|fail)only[go_sem,simprocAttr,xE,xN,xC,xP,xA,xZ]
     simp [h5]
theorem Q3V (f g : Fl) (hf : f ≠ .u) (hg : g ≠ .u) (x y : Int) (hx : (lim x.natAbs).length ≤ 1000000) (hy : (lim y.natAbs).length ≤ 1000000) : PC PP Q4e [zV f x,zV g y] (zV .s (x + y)) []:=by
 refine tx Q8s Q3v [] (by kernel_rfl) ?_
 simp -dsimp(disch:=first|exact om|fail)only[go_sem,simprocAttr,xE,xN,xC,xP,xA,xZ]
 refine callP (Q4A f g hf hg x.natAbs y.natAbs (by omega) (by omega)) lL ?_
 by_cases hs : zb x = zb y
 ·rw [hs]
  simp -dsimp(disch:=first|exact om|fail)only[go_sem,simprocAttr,xE,xN,xC,xP,xA,xZ,BEq.rfl]
  refine callP (Y3v f g hf hg x.natAbs y.natAbs (by omega) (by omega)) lL ?_
  simp -dsimp(disch:=first|exact om|fail)only[go_sem,simprocAttr,xE,xN,xC,xP,xA,xZ]
  refine callP (Q2n (x + y) (zb y) (x.natAbs + y.natAbs) (by rw [X9K,Q4o,← hs,Q4o])) lL ?_
  simp -dsimp(disch:=first|exact om|fail)only[go_sem,simprocAttr,xE,xN,xC,xP,xA,xZ]
 ·have e : (zb x == zb y) = false:=by simpa using hs
  have key : x + y = sgn (zb x) x.natAbs + sgn (!zb x) y.natAbs:=by
   have : (!zb x) = zb y:=by cases h1 : zb x <;> cases h2 : zb y <;> simp [h1,h2] at hs ⊢
   rw [this,Q4o,Q4o]
  by_cases hc : y.natAbs ≤ x.natAbs
  ·have h1 : 0 ≤ cmpN x.natAbs y.natAbs:=Y4B.2 hc
   simp -dsimp(disch:=first|exact om|fail)only[go_sem,simprocAttr,xE,xN,xC,xP,xA,xZ,e]
   refine callP (X6P f g hf hg x.natAbs y.natAbs hc (by omega)) lL ?_
   simp -dsimp(disch:=first|exact om|fail)only[go_sem,simprocAttr,xE,xN,xC,xP,xA,xZ]
   refine callP (Q2n (x + y) (zb x) (x.natAbs - y.natAbs) (by
    rw [key]; unfold sgn; cases zb x <;> simp <;> omega)) lW ?_
   simp -dsimp(disch:=first|exact om|fail)only[go_sem,simprocAttr,xE,xN,xC,xP,xA,xZ]
  ·have h1 : ¬ 0 ≤ cmpN x.natAbs y.natAbs:=by rw [X4U (by omega)]; decide
   simp -dsimp(disch:=first|exact om|fail)only[go_sem,simprocAttr,xE,xN,xC,xP,xA,xZ,e]
   refine callP (X6P g f hg hf y.natAbs x.natAbs (by omega) (by omega)) lL ?_
   simp -dsimp(disch:=first|exact om|fail)only[go_sem,simprocAttr,xE,xN,xC,xP,xA,xZ]
   refine callP (Q2n (x + y) (zb y) (y.natAbs - x.natAbs) (by
    have : zb y = !zb x:=by cases h1 : zb x <;> cases h2 : zb y <;> simp [h1,h2] at hs ⊢
    rw [key,this]; unfold sgn; cases zb x <;> simp <;> omega)) lW ?_
   simp -dsimp(disch:=first|exact om|fail)only[go_sem,simprocAttr,xE,xN,xC,xP,xA,xZ]
theorem Q3y (f g : Fl) (hf : f ≠ .u) (hg : g ≠ .u) (x y : Int) (hx : (lim x.natAbs).length ≤ 1000000) (hy : (lim y.natAbs).length ≤ 1000000) : PC PP Q3L [zV f x,zV g y] (zV .s (x - y)) []:=by
 refine tx Q7w Q2Q [] (by kernel_rfl) ?_
 simp -dsimp(disch:=first|exact om|fail)only[go_sem,simprocAttr,xE,xN,xC,xP,xA,xZ]
 refine callB' (X5n y g hg) lB lF ?_
 simp -dsimp(disch:=first|exact om|fail)only[go_sem,simprocAttr,xE,xN,xC,xP,xA,xZ]
 refine callP (Q3V f .b hf flb x (-y) hx (by rw [Int.natAbs_neg]; omega)) lL ?_
 simp -dsimp(disch:=first|exact om|fail)only[go_sem,simprocAttr,xE,xN,xC,xP,xA,xZ]
 rw [Int.sub_eq_add_neg]
 simp -dsimp(disch:=first|exact om|fail)only[go_sem,simprocAttr,xE,xN,xC,xP,xA,xZ]
theorem Q0p (f g : Fl) (hf : f ≠ .u) (hg : g ≠ .u) (x y : Int) (hx : (lim x.natAbs).length ≤ 1000000) (hy : (lim y.natAbs).length ≤ 1000000) : PC PP Q3K [zV f x,zV g y] (zV .s (x * y)) []:=by
 refine tx Q7v Q2P [] (by kernel_rfl) ?_
 simp -dsimp(disch:=first|exact om|fail)only[go_sem,simprocAttr,xE,xN,xC,xP,xA,xZ]
 refine callP (Q9R f g hf hg x.natAbs y.natAbs (by omega) (by omega)) lL ?_
 simp -dsimp(disch:=first|exact om|fail)only[go_sem,simprocAttr,xE,xN,xC,xP,xA,xZ]
 refine callP (Q2n (x * y) (zb x != zb y) (x.natAbs * y.natAbs) (X8n x y)) lL ?_
 simp -dsimp(disch:=first|exact om|fail)only[go_sem,simprocAttr,xE,xN,xC,xP,xA,xZ]
theorem Q9D (f g : Fl) (hf : f ≠ .u) (hg : g ≠ .u) (r : Rat) (n : Nat) (h1 : (lim r.num.natAbs).length ≤ 1000000) (h2 : (lim n).length ≤ 1000000) : PC PP Q3I [pR f r,sI g (lim n)] (zV .s (r.num * n)) []:=by
 refine tx Q7s Q2M [] (by kernel_rfl) ?_
 simp -dsimp(disch:=first|exact om|fail)only[go_sem,simprocAttr,xE,xN,xC,xP,xA,xZ]
 refine callP (Q9R f g hf hg r.num.natAbs n (by omega) (by omega)) lL ?_
 simp -dsimp(disch:=first|exact om|fail)only[go_sem,simprocAttr,xE,xN,xC,xP,xA,xZ]
 refine callP (Q2n (r.num * n) (zb r.num) (r.num.natAbs * n) (by rw [X8m,Q4o])) lL ?_
 simp -dsimp(disch:=first|exact om|fail)only[go_sem,simprocAttr,xE,xN,xC,xP,xA,xZ]
theorem Le.pRb {H : List Ob} {g : Fl} (hg : g ≠ .u) (r : Rat) : Le H .b (pR g r) (pR g r):=by
 cases g with
 | s=>exact .ptr _ _ _ _ (.inl rfl) lW
 | b=>exact .ptr _ _ _ _ ⟨rfl,rfl⟩ lW
 | u=>exact absurd rfl hg
theorem Le.pRs {H : List Ob} {f : Fl} (r : Rat) : Le H f (pR .s r) (pR .s r):=.ptr _ _ _ _ (.inl rfl) lW
@[go_sem] theorem le_pR {H : List Ob} {g : Fl} {r : Rat} (hg : g ≠ .u) : Le H .b (pR g r) (pR g r) = True:=eq_true (Le.pRb hg r)
@[go_sem] theorem Z0v {H : List Ob} {f : Fl} {r : Rat} : Le H f (pR .s r) (pR .s r) = True:=eq_true (Le.pRs r)
@[go_sem] theorem Y3U {H : List Ob} {f : Fl} {x : FQ} : Le H f (pQ .s x) (pQ .s x) = True:=by
 apply eq_true; unfold pQ; split
 ·exact .lit _
 ·exact Le.pRs _
theorem Le.refR {H : List Ob} {f : Fl} {id off : Nat} {ty : TypeId} {cs : List V} {r : Rat} (h : H[id]? = some ⟨.own,ty,cs⟩) (e : LeL H f (cs.drop off) (rtC f r)) : Le H f (.ref id off) (pR f r):=.ref id off _ _ h (.inl rfl) e
theorem X5p (z : Int) (d : Nat) (hd : d ≠ 0) : (mkRat z d).num = sgn (zb z) (z.natAbs / Nat.gcd z.natAbs d) ∧ (mkRat z d).den = d / Nat.gcd z.natAbs d:=by
 have:=X6O (zb z) z.natAbs d hd
 rwa [Q4o] at this
theorem X1Q (z : Int) (d : Nat) (hd : 0 < d) (h1 : (lim z.natAbs).length ≤ 1000000) (h2 : (lim d).length ≤ 1000000) : PC PP Q8u [zV .s z,sI .s (lim d)] (pR .s (mkRat z d)) []:=by
  refine tx X2k Q6P [] (by kernel_rfl) ?_
  obtain ⟨e1,e2⟩:=X5p z d (by omega)
  by_cases h0 : z = 0
  · subst h0
    have e3 : mkRat 0 d = 0:=by rw [Rat.zero_mkRat]
    rw [e3]
    have l0 : lim (Int.natAbs 0) = []:=Q0k
    simp -dsimp(disch:=first|exact om|fail)only[go_sem,↓reduceIte,Nat.reduceEqDiff,Nat.reduceAdd,Nat.reduceSub,Nat.reduceMul,Nat.reduceLT,Nat.reduceLeDiff,reduceCtorEq,xE,xN,xC,xP,xA,xZ,Int.reduceToNat,l0,X4u]
    exact Le.refR rfl (by show LeL _ _ _ [Bo (zb 0),sI .s (lim 0),sI .s (lim 1)]; simp -dsimp(disch:=first|exact om|fail)only[go_sem,↓reduceIte,Nat.reduceEqDiff,Nat.reduceAdd,Nat.reduceSub,Nat.reduceMul,Nat.reduceLT,Nat.reduceLeDiff,reduceCtorEq,xE,xN,xC,xP,xA,xZ,Int.reduceToNat,Q0k]; rfl)
  · have hz : 0 < z.natAbs:=by omega
    have hl:=Q1w.1 hz
    have hg0 : 0 < Nat.gcd z.natAbs d:=Nat.gcd_pos_of_pos_right _ hd
    have hgl:=X1n z.natAbs d hd
    simp -dsimp(disch:=first|exact om|fail)only[go_sem,↓reduceIte,Nat.reduceEqDiff,Nat.reduceAdd,Nat.reduceSub,Nat.reduceMul,Nat.reduceLT,Nat.reduceLeDiff,reduceCtorEq,xE,xN,xC,xP,xA,xZ,Int.reduceToNat]
    refine callP (X7s z.natAbs d (by omega) (by omega)) lL ?_
    simp -dsimp(disch:=first|exact om|fail)only[go_sem,↓reduceIte,Nat.reduceEqDiff,Nat.reduceAdd,Nat.reduceSub,Nat.reduceMul,Nat.reduceLT,Nat.reduceLeDiff,reduceCtorEq,xE,xN,xC,xP,xA,xZ,Int.reduceToNat,X4u]
    refine callP (Q4A .s .s fls fls (Nat.gcd z.natAbs d) 1 (by omega) (by rw [Q7Q]; decide)) lL ?_
    by_cases h3 : Nat.gcd z.natAbs d = 1
    · have h4 : cmpN (Nat.gcd z.natAbs d) 1 = 0:=X7B.2 h3
      rw [h3,Nat.div_one,Q4o] at e1
      rw [h3,Nat.div_one] at e2
      simp -dsimp(disch:=first|exact om|fail)only[go_sem,↓reduceIte,Nat.reduceEqDiff,Nat.reduceAdd,Nat.reduceSub,Nat.reduceMul,Nat.reduceLT,Nat.reduceLeDiff,reduceCtorEq,xE,xN,xC,xP,xA,xZ,Int.reduceToNat,h4]
      exact Le.refR rfl (by rw [Y3e,e1,e2]; simp -dsimp(disch:=first|exact om|fail)only[go_sem,↓reduceIte,Nat.reduceEqDiff,Nat.reduceAdd,Nat.reduceSub,Nat.reduceMul,Nat.reduceLT,Nat.reduceLeDiff,reduceCtorEq,xE,xN,xC,xP,xA,xZ,Int.reduceToNat])
    · have h4 : ¬ cmpN (Nat.gcd z.natAbs d) 1 = 0:=fun h=>h3 (X7B.1 h)
      simp -dsimp(disch:=first|exact om|fail)only[go_sem,↓reduceIte,Nat.reduceEqDiff,Nat.reduceAdd,Nat.reduceSub,Nat.reduceMul,Nat.reduceLT,Nat.reduceLeDiff,reduceCtorEq,xE,xN,xC,xP,xA,xZ,Int.reduceToNat,h4]
      refine callP (X2H .s .s fls fls z.natAbs (Nat.gcd z.natAbs d) hg0 (by omega) (by omega)) lL ?_
      simp -dsimp(disch:=first|exact om|fail)only[go_sem,↓reduceIte,Nat.reduceEqDiff,Nat.reduceAdd,Nat.reduceSub,Nat.reduceMul,Nat.reduceLT,Nat.reduceLeDiff,reduceCtorEq,xE,xN,xC,xP,xA,xZ,Int.reduceToNat]
      refine callP (X2H .s .s fls fls d (Nat.gcd z.natAbs d) hg0 (by omega) (by omega)) lL ?_
      simp -dsimp(disch:=first|exact om|fail)only[go_sem,↓reduceIte,Nat.reduceEqDiff,Nat.reduceAdd,Nat.reduceSub,Nat.reduceMul,Nat.reduceLT,Nat.reduceLeDiff,reduceCtorEq,xE,xN,xC,xP,xA,xZ,Int.reduceToNat]
      refine callP (Q2n (mkRat z d).num (zb z) (z.natAbs / Nat.gcd z.natAbs d) e1.symm) lL ?_
      rw [← e2]
      simp -dsimp(disch:=first|exact om|fail)only[go_sem,↓reduceIte,Nat.reduceEqDiff,Nat.reduceAdd,Nat.reduceSub,Nat.reduceMul,Nat.reduceLT,Nat.reduceLeDiff,reduceCtorEq,xE,xN,xC,xP,xA,xZ,Int.reduceToNat]
theorem X1o {a b k : Nat} (ha : (lim a).length ≤ k) (hb : (lim b).length ≤ k) : (lim (a + b)).length ≤ k + 1:=by
 rw [Q0o] at *
 rw [Int.pow_succ]
 generalize (1000000000 : Int) ^ k = P at *
 omega
theorem X2C (f g : Fl) (hf : f ≠ .u) (hg : g ≠ .u) (r s : Rat) (h1 : (lim r.num.natAbs).length ≤ 1000) (h2 : (lim r.den).length ≤ 1000) (h3 : (lim s.num.natAbs).length ≤ 1000) (h4 : (lim s.den).length ≤ 1000) : PC PP Q4E [pR f r,pR g s] (pR .s (r + s)) []:=by
 refine tx Q8T Q3T [] (by kernel_rfl) ?_
 simp -dsimp(disch:=first|exact om|fail)only[go_sem,simprocAttr,xE,xN,xC,xP,xA,xZ]
 refine callP (Q9D f g hf hg r s.den (by omega) (by omega)) lL ?_
 simp -dsimp(disch:=first|exact om|fail)only[go_sem,simprocAttr,xE,xN,xC,xP,xA,xZ]
 refine callP (Q9D g f hg hf s r.den (by omega) (by omega)) lL ?_
 simp -dsimp(disch:=first|exact om|fail)only[go_sem,simprocAttr,xE,xN,xC,xP,xA,xZ]
 have m1:=Q0s (a:=r.num.natAbs) (d:=s.den)
 have m2:=Q0s (a:=s.num.natAbs) (d:=r.den)
 have m3:=Q0s (a:=r.den) (d:=s.den)
 rw [X6K] at m1 m2
 refine callP (Q3V .s .s fls fls (r.num * s.den) (s.num * r.den) (by omega) (by omega)) lL ?_
 simp -dsimp(disch:=first|exact om|fail)only[go_sem,simprocAttr,xE,xN,xC,xP,xA,xZ]
 refine callP (Q9R f g hf hg r.den s.den (by omega) (by omega)) lL ?_
 simp -dsimp(disch:=first|exact om|fail)only[go_sem,simprocAttr,xE,xN,xC,xP,xA,xZ]
 have hl : (lim (r.num * s.den + s.num * r.den).natAbs).length ≤ 1000000:=by
  have h5:=Q0m (Int.natAbs_add_le (r.num * s.den) (s.num * r.den))
  have h8:=X1o (a:=(r.num * s.den).natAbs) (b:=(s.num * r.den).natAbs) (k:=2000) (by omega) (by omega)
  omega
 refine callP (X1Q (r.num * s.den + s.num * r.den) (r.den * s.den) (Nat.mul_pos r.den_pos s.den_pos) hl (by omega)) lL ?_
 have e : mkRat (r.num * s.den + s.num * r.den) (r.den * s.den) = r + s:=by rw [Rat.add_def,Rat.normalize_eq_mkRat]
 rw [e]
 simp -dsimp(disch:=first|exact om|fail)only[go_sem,simprocAttr,xE,xN,xC,xP,xA,xZ]
theorem X1O (f g : Fl) (hf : f ≠ .u) (hg : g ≠ .u) (r s : Rat) (h1 : (lim r.num.natAbs).length ≤ 1000) (h2 : (lim r.den).length ≤ 1000) (h3 : (lim s.num.natAbs).length ≤ 1000) (h4 : (lim s.den).length ≤ 1000) : PC PP Q4a [pR f r,pR g s] (pR .s (r * s)) []:=by
 refine tx Q8o Q3q [] (by kernel_rfl) ?_
 have m1:=Q0s (a:=r.num.natAbs) (d:=s.num.natAbs)
 rw [← Int.natAbs_mul] at m1
 have m3:=Q0s (a:=r.den) (d:=s.den)
 simp -dsimp(disch:=first|exact om|fail)only[go_sem,simprocAttr,xE,xN,xC,xP,xA,xZ]
 refine callP (Q0p f g hf hg r.num s.num (by omega) (by omega)) lL ?_
 simp -dsimp(disch:=first|exact om|fail)only[go_sem,simprocAttr,xE,xN,xC,xP,xA,xZ]
 refine callP (Q9R f g hf hg r.den s.den (by omega) (by omega)) lL ?_
 simp -dsimp(disch:=first|exact om|fail)only[go_sem,simprocAttr,xE,xN,xC,xP,xA,xZ]
 refine callP (X1Q (r.num * s.num) (r.den * s.den) (Nat.mul_pos r.den_pos s.den_pos) (by omega) (by omega)) lL ?_
 have e : mkRat (r.num * s.num) (r.den * s.den) = r * s:=by rw [Rat.mul_def,Rat.normalize_eq_mkRat]
 rw [e]
 simp -dsimp(disch:=first|exact om|fail)only[go_sem,simprocAttr,xE,xN,xC,xP,xA,xZ]
theorem Y3x (f : Fl) (r : Rat) : pQ f (FQ.fit r) = if (lim r.num.natAbs).length ≤ 24 ∧ (lim r.den).length ≤ 24 then pR f r else .lit (.pointer none):=by
 unfold FQ.fit
 by_cases h : (lim r.num.natAbs).length ≤ 24 ∧ (lim r.den).length ≤ 24
 ·rw [dif_pos h,if_pos h]; rfl
 ·rw [dif_neg h,if_neg h]; rfl
theorem fit_c (r : Rat) (h1 : (lim r.num.natAbs).length ≤ 1000000) (h2 : (lim r.den).length ≤ 1000000) : PC PP X1z [pR .s r] (pQ .s (FQ.fit r)) []:=by
 refine tx X5E X0i [] (by kernel_rfl) ?_
 rw [Y3x]
 by_cases a : (lim r.num.natAbs).length ≤ 24
 ·by_cases b : (lim r.den).length ≤ 24
  ·rw [if_pos ⟨a,b⟩]; simp -dsimp(disch:=first|exact om|fail)only[go_sem,simprocAttr,xE,xN,xC,xP,xA,xZ]
  ·rw [if_neg (fun h=>b h.2)]; simp -dsimp(disch:=first|exact om|fail)only[go_sem,simprocAttr,xE,xN,xC,xP,xA,xZ]
 ·rw [if_neg (fun h=>a h.1)]; simp -dsimp(disch:=first|exact om|fail)only[go_sem,simprocAttr,xE,xN,xC,xP,xA,xZ]
theorem X9h (f : Fl) (hf : f ≠ .u) (r : RD) (hr : r.small) : PB PP Q4U [rV f r] (pQ .b (rdq r)) []:=by
 refine txb X4e Q9g [] [] [] (by kernel_rfl) ?_
 simp -dsimp(disch:=first|exact om|fail)only[go_sem,simprocAttr,xE,xN,xC,xP,xA,xZ]
 refine callP (X2T f hf r hr) lL ?_
 cases h1 : r.ok
 ·rw [X9T h1,Y3y]
  simp -dsimp(disch:=first|exact om|fail)only[go_sem,simprocAttr,xE,xN,xC,xP,xA,xZ]
  exact RtB.nothing [] (by decide) trivial lW
 ·obtain ⟨x,rfl,hx⟩:=ok_qd h1
  rw [X4A]
  obtain ⟨x,hok⟩:=x
  cases x with
  | none=>cases hx
  | some q =>
   simp -dsimp(disch:=first|exact om|fail)only[go_sem,simprocAttr,xE,xN,xC,xP,xA,xZ]
   refine RtB.shareb (cs:=rtC f q) (cs':=rtC .b q) 1 rfl lW lW lW ?_
   exact RtB.nothing [] (by decide) trivial (of_eq_true (X9P lW))
theorem PC.nilO {f : FuncId} {r : V} {objs : List Ob} {fl : Fl} (hf : fl ≠ .u) (h : ∀ (a : Option Addr) (c : Nat),c ≤ maxLen → PC PP f [.lit (.slice a 0 c)] r objs) : PC PP f [.sl fl 1 0 []] r objs:=by
 refine ⟨(h none 0 (by decide)).1,fun w S B xs hb hr=>?_⟩
 obtain ⟨x,xs',u1,u2,rfl,e2,e3,e4,e5⟩:=hr
 subst e4
 obtain ⟨a,c,rfl,_,hc,_⟩:=e3
 exact (h a c hc).2 w S B _ hb ⟨_,_,[],[],rfl,rfl,⟨rfl,rfl,rfl⟩,rfl,rfl⟩
theorem X7G (f : Fl) (hf : f ≠ .u) (l : List Int) (hl : l.length ≤ 1048576) : GC PP Q0Z [sI f l] [] (.rsl 0 1 0 l.length) [⟨.own,T_int,iC l⟩]:=by
 by_cases h0 : l.length = 0
 ·obtain rfl:=List.eq_nil_of_length_eq_zero h0
  refine PC.gc (PC.nilO hf fun a c hc=>GC.pc ?_)
  cases a with
  | none =>
   refine txg Q0l Q0g 0 [] [] [] rfl (by kernel_rfl) ?_
   simp -dsimp(disch:=first|exact om|fail)only[go_sem,simprocAttr,xE,xN,xC,xP,xA,xZ,Option.isNone_none]
   exact RtG.ren [none] [[]] trivial (by decide) (by simp -dsimp only [go_sem,simprocAttr]; simp [iC]) (by simp -dsimp only [go_sem,simprocAttr])
  | some a =>
   refine txg Q0l Q0g 0 [] [3] [] rfl (by kernel_rfl) ?_
   simp -dsimp(disch:=first|exact om|fail)only[go_sem,simprocAttr,xE,xN,xC,xP,xA,xZ,Option.isNone_some]
   refine ⟨⟨[(0,.sl .b 1 0 [])],[]⟩,StI.var ?_, ?_⟩
   ·intro t v ht
    by_cases e : t = 0
    ·subst e
     obtain rfl : V.sl .b 1 0 [] = v:=Option.some.inj ht
     refine ⟨_,rfl, ?_⟩
     rintro w S B κ x ⟨_,rfl,_⟩
     exact ⟨_,_,rfl,Nat.zero_le _,hc,rfl,.inl ⟨rfl,rfl,by intro h; cases h⟩⟩
    ·have e' : (t == 0) = false:=by simpa using e
     simp only [List.lookup,e'] at ht
     cases ht
   ·simp -dsimp(disch:=first|exact om|fail)only[go_sem,simprocAttr,xE,xN,xC,xP,xA,xZ]
    exact RtG.nothing [some 0] trivial (by decide) (by simp -dsimp only [go_sem,simprocAttr]; exact RnL.nil _ _) lW
 ·have : 0 < l.length:=by omega
  refine txg Q0l Q0g 0 [] [] [] rfl (by kernel_rfl) ?_
  simp -dsimp(disch:=first|exact om|fail)only[go_sem,simprocAttr,xE,xN,xC,xP,xA,xZ]
  exact RtG.nothing [some 0] lE (by decide) lS lE
theorem Y0F (f : Fl) (hf : f ≠ .u) (z : Int) (hz : (lim z.natAbs).length ≤ 60) : GC PP Q3M [zV f z] [] (.agg [Bo (zb z),.rsl 0 1 0 (lim z.natAbs).length]) [⟨.own,T_int,iC (lim z.natAbs)⟩]:=by
 refine txg Q7x Q2R 0 [] [] [] rfl (by kernel_rfl) ?_
 simp -dsimp(disch:=first|exact om|fail)only[go_sem,simprocAttr,xE,xN,xC,xP,xA,xZ]
 refine callO' (X7G f hf (lim z.natAbs) (by omega)) lL lF ?_
 simp -dsimp(disch:=first|exact om|fail)only[go_sem,simprocAttr,xE,xN,xC,xP,xA,xZ]
 exact RtG.nothing [some 2] lE (by decide) lS lE
theorem X5R (f : Fl) (hf : f ≠ .u) (x : FQ) : GC PP Q3Z [pQ f x] [] (rO (qd x)) (rH (qd x)):=by
 obtain ⟨x,hx⟩:=x
 cases x with
 | none =>
  show GC PP Q3Z [.lit (.pointer none)] [] (rO (qd FQ.bad)) (rH (qd FQ.bad))
  rw [Q9Z]
  refine txg Q9r Q4K 0 [] [] [] rfl (by kernel_rfl) ?_
  simp -dsimp(disch:=first|exact om|fail)only[go_sem,simprocAttr,xE,xN,xC,xP,xA,xZ]
  exact RtG.ren [none,none] [[],[]] trivial (by decide) (by simp -dsimp only [go_sem,simprocAttr]; simp [iC]) lW
 | some r =>
  have h1:=hx r rfl
  show GC PP Q3Z [pR f r] [] (.agg [Bo (zb r.num),.rsl 0 1 0 (lim r.num.natAbs).length,.rsl 1 1 0 (lim r.den).length]) [⟨.own,T_int,iC (lim r.num.natAbs)⟩,⟨.own,T_int,iC (lim r.den)⟩]
  refine txg Q9r Q4K 0 [] [] [] rfl (by kernel_rfl) ?_
  simp -dsimp(disch:=first|exact om|fail)only[go_sem,simprocAttr,xE,xN,xC,xP,xA,xZ]
  refine callO' (Y0F f hf r.num (by omega)) lL lF ?_
  simp -dsimp(disch:=first|exact om|fail)only[go_sem,simprocAttr,xE,xN,xC,xP,xA,xZ]
  refine callO' (X7G f hf (lim r.den) (by omega)) lL lF ?_
  simp -dsimp(disch:=first|exact om|fail)only[go_sem,simprocAttr,xE,xN,xC,xP,xA,xZ]
  exact RtG.nothing [some 1,some 2] lE (by decide) lS lE
end Go.Proofs.Ytchlpclgkhggeaa