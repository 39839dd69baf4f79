/- part of the proof -/
import Derived.Test.YtchlpclgkhggeaaTIa
namespace Go.Proofs.Ytchlpclgkhggeaa
open Go Go.RowKit
set_option maxRecDepth 100000
set_option maxHeartbeats 1600000
set_option linter.unusedVariables false
set_option linter.unusedSimpArgs false
abbrev zV (f : Fl) (z : Int) : V:=.agg (bC f (zb z) (lim z.natAbs))
def rtC (f : Fl) (r : Rat) : List V:=[Bo (zb r.num),sI f (lim r.num.natAbs),sI f (lim r.den)]
@[go_sem] theorem Y9B {f : Fl} {r : Rat} : rtC f r = [Bo (zb r.num),sI f (lim r.num.natAbs),sI f (lim r.den)]:=(rfl)
abbrev pR (f : Fl) (r : Rat) : V:=.ptr f (rtC f r)
def pQ (f : Fl) (x : FQ) : V:=match x.1 with
 | none=>.lit (.pointer none)
 | some r=>pR f r
theorem Y9X {f : Fl} : pQ f FQ.bad = .lit (.pointer none):=rfl
theorem Q4O (f : Fl) (x : FQ) : pQ f x = .lit (.pointer none) ∨ ∃ r,pQ f x = pR f r:=by
 unfold pQ; split
 ·exact .inl rfl
 ·exact .inr ⟨_,rfl⟩
@[go_sem] theorem sh_pQ {n : Nat} {f : Fl} {x : FQ} : V.sh n (pQ f x) = pQ f x:=by
 rcases Q4O f x with h | ⟨r,h⟩ <;> rw [h] <;> rfl
@[go_sem] theorem Z3u {f : Fl} {x : FQ} : V.cells (pQ f x) = some [pQ f x]:=by
 rcases Q4O f x with h | ⟨r,h⟩ <;> rw [h] <;> rfl
@[go_sem] theorem Z5V {f : Fl} {x : FQ} : V.cell (pQ f x) = True:=by
 rcases Q4O f x with h | ⟨r,h⟩ <;> rw [h] <;> rfl
@[go_sem] theorem Y6P {f : Fl} {x : FQ} : V.flat (pQ f x) = True:=by
 rcases Q4O f x with h | ⟨r,h⟩ <;> rw [h] <;> rfl
@[go_sem] theorem nu_pQ {f : Fl} {x : FQ} (hf : f ≠ .u) : V.nu (pQ f x) = True:=by
 rcases Q4O f x with h | ⟨r,h⟩ <;> rw [h]
 ·rfl
 ·cases f
  ·rfl
  ·rfl
  ·exact absurd rfl hf
@[go_sem] theorem Y1Q {H : List Ob} {js : List (Option Nat)} {f : Fl} {sz n : Nat} {cs : List V} (hf : f ≠ .u) : Rn H js true (.sl f sz n cs) (.sl .b sz n cs) [] = True:=eq_true (Rn.lent hf)
theorem Y3v {a b : Nat} : cmpN a b = 0 ↔ a = b:=by
 unfold cmpN
 split
 ·omega
 ·split <;> omega
theorem Q2S (z : Int) (b : Bool) (n : Nat) (e : sgn b n = z) : PC PP Q6I [Bo b,sI .s (lim n)] (zV .s z) []:=by
 subst e
 rw [zV,Q1V,X9z]
 refine tx X1F Q5w [] (by kernel_rfl) ?_
 simp -dsimp(disch:=first|exact om|fail)only[go_sem,simprocAttr,xE,xN,xC,xP,xA,xZ]
 have:=@Q1t n
 refine ⟨fun h=>?_,fun h=>by rw [h]; rfl⟩
 rw [h,Bool.true_and]
 apply decide_eq_decide.2
 constructor
 ·intro h; exact this.2 (by omega)
 ·intro h; have:=this.1 h; omega
theorem Y4h (z : Int) (b : Bool) (n : Nat) (f : Fl) (hf : f ≠ .u) (e : sgn b n = z) : PB PP Q6I [Bo b,sI f (lim n)] (zV .b z) []:=by
 subst e
 rw [zV,Q1V,X9z]
 refine txb X1F Q5w [] [] [] (by kernel_rfl) ?_
 simp -dsimp(disch:=first|exact om|fail)only[go_sem,simprocAttr,xE,xN,xC,xP,xA,xZ]
 have:=@Q1t n
 have e : decide (0 < ((lim n).length : Int)) = decide (0 < n):=by
  apply decide_eq_decide.2
  constructor
  ·intro h; exact this.2 (by omega)
  ·intro h; have:=this.1 h; omega
 rw [e]
 refine ⟨fun h=>?_,fun h=>?_⟩
 ·rw [h,Bool.true_and]; exact RtB.nothing [] (by decide) trivial (by simp -dsimp(disch:=first|exact om|fail)only[go_sem,simprocAttr,xE,xN,xC,xP,xA,xZ,Y1Q])
 ·rw [h,Bool.false_and]; exact RtB.nothing [] (by decide) trivial (by simp -dsimp(disch:=first|exact om|fail)only[go_sem,simprocAttr,xE,xN,xC,xP,xA,xZ,Y1Q])
theorem Y0U (z : Int) (f : Fl) (hf : f ≠ .u) : PB PP Q1m [zV f z] (zV .b (-z)) []:=by
 refine txb Q2M Q1e [] [] [] (by kernel_rfl) ?_
 simp -dsimp(disch:=first|exact om|fail)only[go_sem,simprocAttr,xE,xN,xC,xP,xA,xZ]
 refine callB' (Y4h (-z) (!zb z) z.natAbs f hf (Y1I z)) lB lF ?_
 simp -dsimp(disch:=first|exact om|fail)only[go_sem,simprocAttr,xE,xN,xC,xP,xA,xZ]
 exact RtB.nothing [] (by decide) trivial (by simp -dsimp(disch:=first|exact om|fail)only[go_sem,simprocAttr,xE,xN,xC,xP,xA,xZ,Y1Q])
theorem X4s (f : Fl) (hf : f ≠ .u) (b : Bool) (m : List Int) (hm : m.length ≤ 1048576) : PC PP Q8G [.agg (bC f b m)] (Bo (bok b m)) []:=by
 refine tx X4Y Q7c [] (by kernel_rfl) ?_
 simp -dsimp(disch:=first|exact om|fail)only[go_sem,simprocAttr,xE,xN,xC,xP,xA,xZ]
 refine callP (X2S f hf m hm) lL ?_
 unfold bok
 cases h1 : okN m
 ·simp -dsimp(disch:=first|exact om|fail)only[go_sem,simprocAttr,xE,xN,xC,xP,xA,xZ]
 ·cases b
  ·simp -dsimp(disch:=first|exact om|fail)only[go_sem,simprocAttr,xE,xN,xC,xP,xA,xZ]
  ·by_cases h2 : m.length = 0
   ·simp -dsimp(disch:=first|exact om|fail)only[go_sem,simprocAttr,xE,xN,xC,xP,xA,xZ,h2]
   ·simp -dsimp(disch:=first|exact om|fail)only[go_sem,simprocAttr,xE,xN,xC,xP,xA,xZ]
    simp [h2]
theorem X7U (f : Fl) (hf : f ≠ .u) (r : RD) (hr : r.small) : PC PP X3j [rV f r] (Bo r.ok) []:=by
 obtain ⟨b,m,d⟩:=r
 obtain ⟨hm,hd⟩:=hr
 simp only at hm hd
 refine tx X8x X1b [] (by kernel_rfl) ?_
 simp -dsimp(disch:=first|exact om|fail)only[go_sem,simprocAttr,xE,xN,xC,xP,xA,xZ]
 refine callP (X4s f hf b m hm) lL ?_
 cases h1 : bok b m
 ·have : RD.ok ⟨b,m,d⟩ = false:=by
   show (bok b m && okN d && decide (d.length ≠ 0) && decide (d.length ≤ 24) && decide (m.length ≤ 24) && _) = false
   rw [h1]; simp
  rw [this]
  simp -dsimp(disch:=first|exact om|fail)only[go_sem,simprocAttr,xE,xN,xC,xP,xA,xZ]
 ·simp -dsimp(disch:=first|exact om|fail)only[go_sem,simprocAttr,xE,xN,xC,xP,xA,xZ]
  refine callP (X2S f hf d hd) lL ?_
  cases h2 : okN d
  ·have : RD.ok ⟨b,m,d⟩ = false:=by
    show (bok b m && okN d && decide (d.length ≠ 0) && decide (d.length ≤ 24) && decide (m.length ≤ 24) && _) = false
    rw [h2]; simp
   rw [this]
   simp -dsimp(disch:=first|exact om|fail)only[go_sem,simprocAttr,xE,xN,xC,xP,xA,xZ]
  ·obtain ⟨n,e,rfl,rfl,hk⟩:=Y6u h1 h2
   rw [hk]
   by_cases h3 : (lim e).length = 0
   ·simp -dsimp(disch:=first|exact om|fail)only[go_sem,simprocAttr,xE,xN,xC,xP,xA,xZ,h3]
   ·by_cases h5 : (lim n).length ≤ 24
    ·by_cases h4 : (lim e).length ≤ 24
     ·simp -dsimp(disch:=first|exact om|fail)only[go_sem,simprocAttr,xE,xN,xC,xP,xA,xZ]
      refine callB' (Y3k f f hf hf n e (by omega) (by omega)) lB lF ?_
      simp -dsimp(disch:=first|exact om|fail)only[go_sem,simprocAttr,xE,xN,xC,xP,xA,xZ]
      rw [X7A]
      refine callP (Q5Z .b .s flb fls (Nat.gcd n e) 1 (by have:=X5W n e (Q1t.2 (by omega)); omega) (by rw [X0V]; decide)) lL ?_
      simp -dsimp(disch:=first|exact om|fail)only[go_sem,simprocAttr,xE,xN,xC,xP,xA,xZ]
      simp [h3,h4,h5]
      exact Y3v
     ·simp -dsimp(disch:=first|exact om|fail)only[go_sem,simprocAttr,xE,xN,xC,xP,xA,xZ]
      simp [h4]
    ·simp -dsimp(disch:=first|exact om|fail)only[go_sem,simprocAttr,xE,xN,xC,xP,xA,xZ]
     simp [h5]
theorem Q5e (f g : Fl) (hf : f ≠ .u) (hg : g ≠ .u) (x y : Int) (hx : (lim x.natAbs).length ≤ 1000000) (hy : (lim y.natAbs).length ≤ 1000000) : PC PP Q5u [zV f x,zV g y] (zV .s (x + y)) []:=by
 refine tx X1L Q4m [] (by kernel_rfl) ?_
 simp -dsimp(disch:=first|exact om|fail)only[go_sem,simprocAttr,xE,xN,xC,xP,xA,xZ]
 refine callP (Q5Z f g hf hg x.natAbs y.natAbs (by omega) (by omega)) lL ?_
 by_cases hs : zb x = zb y
 ·rw [hs]
  simp -dsimp(disch:=first|exact om|fail)only[go_sem,simprocAttr,xE,xN,xC,xP,xA,xZ,BEq.rfl]
  refine callP (Y9U f g hf hg x.natAbs y.natAbs (by omega) (by omega)) lL ?_
  simp -dsimp(disch:=first|exact om|fail)only[go_sem,simprocAttr,xE,xN,xC,xP,xA,xZ]
  refine callP (Q2S (x + y) (zb y) (x.natAbs + y.natAbs) (by rw [Y5Z,Q5G,← hs,Q5G])) lL ?_
  simp -dsimp(disch:=first|exact om|fail)only[go_sem,simprocAttr,xE,xN,xC,xP,xA,xZ]
 ·have e : (zb x == zb y) = false:=by simpa using hs
  have key : x + y = sgn (zb x) x.natAbs + sgn (!zb x) y.natAbs:=by
   have : (!zb x) = zb y:=by cases h1 : zb x <;> cases h2 : zb y <;> simp [h1,h2] at hs ⊢
   rw [this,Q5G,Q5G]
  by_cases hc : y.natAbs ≤ x.natAbs
  ·have h1 : 0 ≤ cmpN x.natAbs y.natAbs:=Z1a.2 hc
   simp -dsimp(disch:=first|exact om|fail)only[go_sem,simprocAttr,xE,xN,xC,xP,xA,xZ,e]
   refine callP (Y2y f g hf hg x.natAbs y.natAbs hc (by omega)) lL ?_
   simp -dsimp(disch:=first|exact om|fail)only[go_sem,simprocAttr,xE,xN,xC,xP,xA,xZ]
   refine callP (Q2S (x + y) (zb x) (x.natAbs - y.natAbs) (by
    rw [key]; unfold sgn; cases zb x <;> simp <;> omega)) lW ?_
   simp -dsimp(disch:=first|exact om|fail)only[go_sem,simprocAttr,xE,xN,xC,xP,xA,xZ]
  ·have h1 : ¬ 0 ≤ cmpN x.natAbs y.natAbs:=by rw [Y0A (by omega)]; decide
   simp -dsimp(disch:=first|exact om|fail)only[go_sem,simprocAttr,xE,xN,xC,xP,xA,xZ,e]
   refine callP (Y2y g f hg hf y.natAbs x.natAbs (by omega) (by omega)) lL ?_
   simp -dsimp(disch:=first|exact om|fail)only[go_sem,simprocAttr,xE,xN,xC,xP,xA,xZ]
   refine callP (Q2S (x + y) (zb y) (y.natAbs - x.natAbs) (by
    have : zb y = !zb x:=by cases h1 : zb x <;> cases h2 : zb y <;> simp [h1,h2] at hs ⊢
    rw [key,this]; unfold sgn; cases zb x <;> simp <;> omega)) lW ?_
   simp -dsimp(disch:=first|exact om|fail)only[go_sem,simprocAttr,xE,xN,xC,xP,xA,xZ]
theorem Q1P (f g : Fl) (hf : f ≠ .u) (hg : g ≠ .u) (x y : Int) (hx : (lim x.natAbs).length ≤ 1000000) (hy : (lim y.natAbs).length ≤ 1000000) : PC PP Q4H [zV f x,zV g y] (zV .s (x - y)) []:=by
 refine tx X0x Q3E [] (by kernel_rfl) ?_
 simp -dsimp(disch:=first|exact om|fail)only[go_sem,simprocAttr,xE,xN,xC,xP,xA,xZ]
 refine callB' (Y0U y g hg) lB lF ?_
 simp -dsimp(disch:=first|exact om|fail)only[go_sem,simprocAttr,xE,xN,xC,xP,xA,xZ]
 refine callP (Q5e f .b hf flb x (-y) hx (by rw [Int.natAbs_neg]; omega)) lL ?_
 simp -dsimp(disch:=first|exact om|fail)only[go_sem,simprocAttr,xE,xN,xC,xP,xA,xZ]
 rw [Int.sub_eq_add_neg]
 simp -dsimp(disch:=first|exact om|fail)only[go_sem,simprocAttr,xE,xN,xC,xP,xA,xZ]
theorem Q0u (f g : Fl) (hf : f ≠ .u) (hg : g ≠ .u) (x y : Int) (hx : (lim x.natAbs).length ≤ 1000000) (hy : (lim y.natAbs).length ≤ 1000000) : PC PP Q4G [zV f x,zV g y] (zV .s (x * y)) []:=by
 refine tx X0w Q3D [] (by kernel_rfl) ?_
 simp -dsimp(disch:=first|exact om|fail)only[go_sem,simprocAttr,xE,xN,xC,xP,xA,xZ]
 refine callP (X1V f g hf hg x.natAbs y.natAbs (by omega) (by omega)) lL ?_
 simp -dsimp(disch:=first|exact om|fail)only[go_sem,simprocAttr,xE,xN,xC,xP,xA,xZ]
 refine callP (Q2S (x * y) (zb x != zb y) (x.natAbs * y.natAbs) (Y4j x y)) lL ?_
 simp -dsimp(disch:=first|exact om|fail)only[go_sem,simprocAttr,xE,xN,xC,xP,xA,xZ]
theorem Y6U (f : Fl) (hf : f ≠ .u) (z : Int) (hz : (lim z.natAbs).length ≤ 60) : PC PP Q1T [zV f z] (zV .s z) []:=by
 refine tx Q4y Q1E [] (by kernel_rfl) ?_
 simp -dsimp(disch:=first|exact om|fail)only[go_sem,simprocAttr,xE,xN,xC,xP,xA,xZ]
 refine callP (X9m f hf (lim z.natAbs) (by omega)) lL ?_
 simp -dsimp(disch:=first|exact om|fail)only[go_sem,simprocAttr,xE,xN,xC,xP,xA,xZ]
theorem Q8M (f g : Fl) (hf : f ≠ .u) (hg : g ≠ .u) (r : Rat) (n : Nat) (h1 : (lim r.num.natAbs).length ≤ 1000000) (h2 : (lim n).length ≤ 1000000) : PC PP Q4C [pR f r,sI g (lim n)] (zV .s (r.num * n)) []:=by
 refine tx X0u Q3B [] (by kernel_rfl) ?_
 simp -dsimp(disch:=first|exact om|fail)only[go_sem,simprocAttr,xE,xN,xC,xP,xA,xZ]
 refine callP (X1V f g hf hg r.num.natAbs n (by omega) (by omega)) lL ?_
 simp -dsimp(disch:=first|exact om|fail)only[go_sem,simprocAttr,xE,xN,xC,xP,xA,xZ]
 refine callP (Q2S (r.num * n) (zb r.num) (r.num.natAbs * n) (by rw [Y4i,Q5G])) lL ?_
 simp -dsimp(disch:=first|exact om|fail)only[go_sem,simprocAttr,xE,xN,xC,xP,xA,xZ]
theorem Le.pRb {H : List Ob} {g : Fl} (hg : g ≠ .u) (r : Rat) : Le H .b (pR g r) (pR g r):=by
 cases g with
 | s=>exact .ptr _ _ _ _ (.inl rfl) lW
 | b=>exact .ptr _ _ _ _ ⟨rfl,rfl⟩ lW
 | u=>exact absurd rfl hg
theorem Le.pRs {H : List Ob} {f : Fl} (r : Rat) : Le H f (pR .s r) (pR .s r):=.ptr _ _ _ _ (.inl rfl) lW
@[go_sem] theorem le_pR {H : List Ob} {g : Fl} {r : Rat} (hg : g ≠ .u) : Le H .b (pR g r) (pR g r) = True:=eq_true (Le.pRb hg r)
@[go_sem] theorem Z7g {H : List Ob} {f : Fl} {r : Rat} : Le H f (pR .s r) (pR .s r) = True:=eq_true (Le.pRs r)
@[go_sem] theorem le_pQ {H : List Ob} {g : Fl} {x : FQ} (hg : g ≠ .u) : Le H .b (pQ g x) (pQ g x) = True:=by
 apply eq_true; unfold pQ; split
 ·exact .lit _
 ·exact Le.pRb hg _
@[go_sem] theorem Z0s {H : List Ob} {f : Fl} {x : FQ} : Le H f (pQ .s x) (pQ .s x) = True:=by
 apply eq_true; unfold pQ; split
 ·exact .lit _
 ·exact Le.pRs _
theorem Le.refR {H : List Ob} {f : Fl} {id off : Nat} {ty : TypeId} {cs : List V} {r : Rat} (h : H[id]? = some ⟨.own,ty,cs⟩) (e : LeL H f (cs.drop off) (rtC f r)) : Le H f (.ref id off) (pR f r):=.ref id off _ _ h (.inl rfl) e
theorem X5T (z : Int) (d : Nat) (hd : d ≠ 0) : (mkRat z d).num = sgn (zb z) (z.natAbs / Nat.gcd z.natAbs d) ∧ (mkRat z d).den = d / Nat.gcd z.natAbs d:=by
 have:=Y2x (zb z) z.natAbs d hd
 rwa [Q5G] at this
theorem X3z (z : Int) (d : Nat) (hd : 0 < d) (h1 : (lim z.natAbs).length ≤ 1000000) (h2 : (lim d).length ≤ 1000000) : PC PP X1Q [zV .s z,sI .s (lim d)] (pR .s (mkRat z d)) []:=by
  refine tx X7h Q9C [] (by kernel_rfl) ?_
  obtain ⟨e1,e2⟩:=X5T z d (by omega)
  by_cases h0 : z = 0
  · subst h0
    have e3 : mkRat 0 d = 0:=by rw [Rat.zero_mkRat]
    rw [e3]
    have l0 : lim (Int.natAbs 0) = []:=Q0o
    simp -dsimp(disch:=first|exact om|fail)only[go_sem,↓reduceIte,Nat.reduceEqDiff,Nat.reduceAdd,Nat.reduceSub,Nat.reduceMul,Nat.reduceLT,Nat.reduceLeDiff,reduceCtorEq,xE,xN,xC,xP,xA,xZ,Int.reduceToNat,l0,X7A]
    exact Le.refR rfl (by show LeL _ _ _ [Bo (zb 0),sI .s (lim 0),sI .s (lim 1)]; simp -dsimp(disch:=first|exact om|fail)only[go_sem,↓reduceIte,Nat.reduceEqDiff,Nat.reduceAdd,Nat.reduceSub,Nat.reduceMul,Nat.reduceLT,Nat.reduceLeDiff,reduceCtorEq,xE,xN,xC,xP,xA,xZ,Int.reduceToNat,Q0o]; rfl)
  · have hz : 0 < z.natAbs:=by omega
    have hl:=Q1t.1 hz
    have hg0 : 0 < Nat.gcd z.natAbs d:=Nat.gcd_pos_of_pos_right _ hd
    have hgl:=X5W z.natAbs d hd
    simp -dsimp(disch:=first|exact om|fail)only[go_sem,↓reduceIte,Nat.reduceEqDiff,Nat.reduceAdd,Nat.reduceSub,Nat.reduceMul,Nat.reduceLT,Nat.reduceLeDiff,reduceCtorEq,xE,xN,xC,xP,xA,xZ,Int.reduceToNat]
    refine callP (Y3j z.natAbs d (by omega) (by omega)) lL ?_
    simp -dsimp(disch:=first|exact om|fail)only[go_sem,↓reduceIte,Nat.reduceEqDiff,Nat.reduceAdd,Nat.reduceSub,Nat.reduceMul,Nat.reduceLT,Nat.reduceLeDiff,reduceCtorEq,xE,xN,xC,xP,xA,xZ,Int.reduceToNat,X7A]
    refine callP (Q5Z .s .s fls fls (Nat.gcd z.natAbs d) 1 (by omega) (by rw [X0V]; decide)) lL ?_
    by_cases h3 : Nat.gcd z.natAbs d = 1
    · have h4 : cmpN (Nat.gcd z.natAbs d) 1 = 0:=Y3v.2 h3
      rw [h3,Nat.div_one,Q5G] at e1
      rw [h3,Nat.div_one] at e2
      simp -dsimp(disch:=first|exact om|fail)only[go_sem,↓reduceIte,Nat.reduceEqDiff,Nat.reduceAdd,Nat.reduceSub,Nat.reduceMul,Nat.reduceLT,Nat.reduceLeDiff,reduceCtorEq,xE,xN,xC,xP,xA,xZ,Int.reduceToNat,h4]
      exact Le.refR rfl (by rw [Y9B,e1,e2]; simp -dsimp(disch:=first|exact om|fail)only[go_sem,↓reduceIte,Nat.reduceEqDiff,Nat.reduceAdd,Nat.reduceSub,Nat.reduceMul,Nat.reduceLT,Nat.reduceLeDiff,reduceCtorEq,xE,xN,xC,xP,xA,xZ,Int.reduceToNat])
    · have h4 : ¬ cmpN (Nat.gcd z.natAbs d) 1 = 0:=fun h=>h3 (Y3v.1 h)
      simp -dsimp(disch:=first|exact om|fail)only[go_sem,↓reduceIte,Nat.reduceEqDiff,Nat.reduceAdd,Nat.reduceSub,Nat.reduceMul,Nat.reduceLT,Nat.reduceLeDiff,reduceCtorEq,xE,xN,xC,xP,xA,xZ,Int.reduceToNat,h4]
      refine callP (X7H .s .s fls fls z.natAbs (Nat.gcd z.natAbs d) hg0 (by omega) (by omega)) lL ?_
      simp -dsimp(disch:=first|exact om|fail)only[go_sem,↓reduceIte,Nat.reduceEqDiff,Nat.reduceAdd,Nat.reduceSub,Nat.reduceMul,Nat.reduceLT,Nat.reduceLeDiff,reduceCtorEq,xE,xN,xC,xP,xA,xZ,Int.reduceToNat]
      refine callP (X7H .s .s fls fls d (Nat.gcd z.natAbs d) hg0 (by omega) (by omega)) lL ?_
      simp -dsimp(disch:=first|exact om|fail)only[go_sem,↓reduceIte,Nat.reduceEqDiff,Nat.reduceAdd,Nat.reduceSub,Nat.reduceMul,Nat.reduceLT,Nat.reduceLeDiff,reduceCtorEq,xE,xN,xC,xP,xA,xZ,Int.reduceToNat]
      refine callP (Q2S (mkRat z d).num (zb z) (z.natAbs / Nat.gcd z.natAbs d) e1.symm) lL ?_
      rw [← e2]
      simp -dsimp(disch:=first|exact om|fail)only[go_sem,↓reduceIte,Nat.reduceEqDiff,Nat.reduceAdd,Nat.reduceSub,Nat.reduceMul,Nat.reduceLT,Nat.reduceLeDiff,reduceCtorEq,xE,xN,xC,xP,xA,xZ,Int.reduceToNat]
theorem Q5L {a b k : Nat} (ha : (lim a).length ≤ k) (hb : (lim b).length ≤ k) : (lim (a + b)).length ≤ k + 1:=by
 rw [Q0p] at *
 rw [Int.pow_succ]
 generalize (1000000000 : Int) ^ k = P at *
 omega
theorem X2F (f g : Fl) (hf : f ≠ .u) (hg : g ≠ .u) (r s : Rat) (h1 : (lim r.num.natAbs).length ≤ 1000) (h2 : (lim r.den).length ≤ 1000) (h3 : (lim s.num.natAbs).length ≤ 1000) (h4 : (lim s.den).length ≤ 1000) : PC PP Q6g [pR f r,pR g s] (pR .s (r + s)) []:=by
 refine tx X2w Q4X [] (by kernel_rfl) ?_
 simp -dsimp(disch:=first|exact om|fail)only[go_sem,simprocAttr,xE,xN,xC,xP,xA,xZ]
 refine callP (Q8M f g hf hg r s.den (by omega) (by omega)) lL ?_
 simp -dsimp(disch:=first|exact om|fail)only[go_sem,simprocAttr,xE,xN,xC,xP,xA,xZ]
 refine callP (Q8M g f hg hf s r.den (by omega) (by omega)) lL ?_
 simp -dsimp(disch:=first|exact om|fail)only[go_sem,simprocAttr,xE,xN,xC,xP,xA,xZ]
 have m1:=Q0g (a:=r.num.natAbs) (d:=s.den)
 have m2:=Q0g (a:=s.num.natAbs) (d:=r.den)
 have m3:=Q0g (a:=r.den) (d:=s.den)
 rw [X4i] at m1 m2
 refine callP (Q5e .s .s fls fls (r.num * s.den) (s.num * r.den) (by omega) (by omega)) lL ?_
 simp -dsimp(disch:=first|exact om|fail)only[go_sem,simprocAttr,xE,xN,xC,xP,xA,xZ]
 refine callP (X1V f g hf hg r.den s.den (by omega) (by omega)) lL ?_
 simp -dsimp(disch:=first|exact om|fail)only[go_sem,simprocAttr,xE,xN,xC,xP,xA,xZ]
 have hl : (lim (r.num * s.den + s.num * r.den).natAbs).length ≤ 1000000:=by
  have h5:=Q0j (Int.natAbs_add_le (r.num * s.den) (s.num * r.den))
  have h8:=Q5L (a:=(r.num * s.den).natAbs) (b:=(s.num * r.den).natAbs) (k:=2000) (by omega) (by omega)
  omega
 refine callP (X3z (r.num * s.den + s.num * r.den) (r.den * s.den) (Nat.mul_pos r.den_pos s.den_pos) hl (by omega)) lL ?_
 have e : mkRat (r.num * s.den + s.num * r.den) (r.den * s.den) = r + s:=by rw [Rat.add_def,Rat.normalize_eq_mkRat]
 rw [e]
 simp -dsimp(disch:=first|exact om|fail)only[go_sem,simprocAttr,xE,xN,xC,xP,xA,xZ]
theorem X6y (f g : Fl) (hf : f ≠ .u) (hg : g ≠ .u) (r s : Rat) (h1 : (lim r.num.natAbs).length ≤ 1000) (h2 : (lim r.den).length ≤ 1000) (h3 : (lim s.num.natAbs).length ≤ 1000) (h4 : (lim s.den).length ≤ 1000) : PC PP Q5r [pR f r,pR g s] (pR .s (r - s)) []:=by
 refine tx X1H Q4h [] (by kernel_rfl) ?_
 simp -dsimp(disch:=first|exact om|fail)only[go_sem,simprocAttr,xE,xN,xC,xP,xA,xZ]
 refine callP (Q8M f g hf hg r s.den (by omega) (by omega)) lL ?_
 simp -dsimp(disch:=first|exact om|fail)only[go_sem,simprocAttr,xE,xN,xC,xP,xA,xZ]
 refine callP (Q8M g f hg hf s r.den (by omega) (by omega)) lL ?_
 simp -dsimp(disch:=first|exact om|fail)only[go_sem,simprocAttr,xE,xN,xC,xP,xA,xZ]
 have m1:=Q0g (a:=r.num.natAbs) (d:=s.den)
 have m2:=Q0g (a:=s.num.natAbs) (d:=r.den)
 have m3:=Q0g (a:=r.den) (d:=s.den)
 rw [X4i] at m1 m2
 refine callP (Q1P .s .s fls fls (r.num * s.den) (s.num * r.den) (by omega) (by omega)) lL ?_
 simp -dsimp(disch:=first|exact om|fail)only[go_sem,simprocAttr,xE,xN,xC,xP,xA,xZ]
 refine callP (X1V f g hf hg r.den s.den (by omega) (by omega)) lL ?_
 simp -dsimp(disch:=first|exact om|fail)only[go_sem,simprocAttr,xE,xN,xC,xP,xA,xZ]
 have hl : (lim (r.num * s.den - s.num * r.den).natAbs).length ≤ 1000000:=by
  have h5:=Q0j (Int.natAbs_sub_le (r.num * s.den) (s.num * r.den))
  have h8:=Q5L (a:=(r.num * s.den).natAbs) (b:=(s.num * r.den).natAbs) (k:=2000) (by omega) (by omega)
  omega
 refine callP (X3z (r.num * s.den - s.num * r.den) (r.den * s.den) (Nat.mul_pos r.den_pos s.den_pos) hl (by omega)) lL ?_
 have e : mkRat (r.num * s.den - s.num * r.den) (r.den * s.den) = r - s:=by rw [Rat.sub_def,Rat.normalize_eq_mkRat]
 rw [e]
 simp -dsimp(disch:=first|exact om|fail)only[go_sem,simprocAttr,xE,xN,xC,xP,xA,xZ]
theorem X0G (f g : Fl) (hf : f ≠ .u) (hg : g ≠ .u) (r s : Rat) (h1 : (lim r.num.natAbs).length ≤ 1000) (h2 : (lim r.den).length ≤ 1000) (h3 : (lim s.num.natAbs).length ≤ 1000) (h4 : (lim s.den).length ≤ 1000) : PC PP Q5q [pR f r,pR g s] (pR .s (r * s)) []:=by
 refine tx X1G Q4g [] (by kernel_rfl) ?_
 have m1:=Q0g (a:=r.num.natAbs) (d:=s.num.natAbs)
 rw [← Int.natAbs_mul] at m1
 have m3:=Q0g (a:=r.den) (d:=s.den)
 simp -dsimp(disch:=first|exact om|fail)only[go_sem,simprocAttr,xE,xN,xC,xP,xA,xZ]
 refine callP (Q0u f g hf hg r.num s.num (by omega) (by omega)) lL ?_
 simp -dsimp(disch:=first|exact om|fail)only[go_sem,simprocAttr,xE,xN,xC,xP,xA,xZ]
 refine callP (X1V f g hf hg r.den s.den (by omega) (by omega)) lL ?_
 simp -dsimp(disch:=first|exact om|fail)only[go_sem,simprocAttr,xE,xN,xC,xP,xA,xZ]
 refine callP (X3z (r.num * s.num) (r.den * s.den) (Nat.mul_pos r.den_pos s.den_pos) (by omega) (by omega)) lL ?_
 have e : mkRat (r.num * s.num) (r.den * s.den) = r * s:=by rw [Rat.mul_def,Rat.normalize_eq_mkRat]
 rw [e]
 simp -dsimp(disch:=first|exact om|fail)only[go_sem,simprocAttr,xE,xN,xC,xP,xA,xZ]
theorem Y9W (f : Fl) (r : Rat) : pQ f (FQ.fit r) = if (lim r.num.natAbs).length ≤ 24 ∧ (lim r.den).length ≤ 24 then pR f r else .lit (.pointer none):=by
 unfold FQ.fit
 by_cases h : (lim r.num.natAbs).length ≤ 24 ∧ (lim r.den).length ≤ 24
 ·rw [dif_pos h,if_pos h]; rfl
 ·rw [dif_neg h,if_neg h]; rfl
theorem fit_c (r : Rat) (h1 : (lim r.num.natAbs).length ≤ 1000000) (h2 : (lim r.den).length ≤ 1000000) : PC PP X6i [pR .s r] (pQ .s (FQ.fit r)) []:=by
 refine tx Y1m X4m [] (by kernel_rfl) ?_
 rw [Y9W]
 by_cases a : (lim r.num.natAbs).length ≤ 24
 ·by_cases b : (lim r.den).length ≤ 24
  ·rw [if_pos ⟨a,b⟩]; simp -dsimp(disch:=first|exact om|fail)only[go_sem,simprocAttr,xE,xN,xC,xP,xA,xZ]
  ·rw [if_neg (fun h=>b h.2)]; simp -dsimp(disch:=first|exact om|fail)only[go_sem,simprocAttr,xE,xN,xC,xP,xA,xZ]
 ·rw [if_neg (fun h=>a h.1)]; simp -dsimp(disch:=first|exact om|fail)only[go_sem,simprocAttr,xE,xN,xC,xP,xA,xZ]
theorem X8O {r s t : Rat} (h1 : (lim r.num.natAbs).length ≤ 24 ∧ (lim r.den).length ≤ 24) (h2 : (lim s.num.natAbs).length ≤ 24 ∧ (lim s.den).length ≤ 24) {z : Int} (e : t = mkRat z (r.den * s.den)) (hz : (lim z.natAbs).length ≤ 60) : (lim t.num.natAbs).length ≤ 1000000 ∧ (lim t.den).length ≤ 1000000:=by
 subst e
 obtain ⟨e1,e2⟩:=X5T z (r.den * s.den) (Nat.ne_of_gt (Nat.mul_pos r.den_pos s.den_pos))
 rw [e1,e2,Q1V]
 have m3:=Q0g (a:=r.den) (d:=s.den)
 have d1:=X5X z.natAbs (Nat.gcd z.natAbs (r.den * s.den))
 have d2:=X5X (r.den * s.den) (Nat.gcd z.natAbs (r.den * s.den))
 omega
theorem add_c (f g : Fl) (hf : f ≠ .u) (hg : g ≠ .u) (x y : FQ) : PC PP Q6k [pQ f x,pQ g y] (pQ .s (x.add y)) []:=by
 obtain ⟨x,hx⟩:=x
 obtain ⟨y,hy⟩:=y
 cases x with
 | none =>
  show PC PP Q6k [.lit (.pointer none),pQ g ⟨y,hy⟩] (.lit (.pointer none)) []
  refine tx X2B Q6u [] (by kernel_rfl) ?_
  simp -dsimp(disch:=first|exact om|fail)only[go_sem,simprocAttr,xE,xN,xC,xP,xA,xZ]
 | some r =>
  cases y with
  | none =>
   show PC PP Q6k [pR f r,.lit (.pointer none)] (.lit (.pointer none)) []
   refine tx X2B Q6u [] (by kernel_rfl) ?_
   simp -dsimp(disch:=first|exact om|fail)only[go_sem,simprocAttr,xE,xN,xC,xP,xA,xZ]
  | some s =>
   show PC PP Q6k [pR f r,pR g s] (pQ .s (FQ.fit (r + s))) []
   have h1:=hx r rfl
   have h2:=hy s rfl
   obtain ⟨l1,l2⟩:=X8O (t:=r + s) h1 h2 (z:=r.num * s.den + s.num * r.den) (by rw [Rat.add_def,Rat.normalize_eq_mkRat]) (by
    have m1:=Q0g (a:=r.num.natAbs) (d:=s.den)
    have m2:=Q0g (a:=s.num.natAbs) (d:=r.den)
    rw [X4i] at m1 m2
    have h5:=Q0j (Int.natAbs_add_le (r.num * s.den) (s.num * r.den))
    have h8:=Q5L (a:=(r.num * s.den).natAbs) (b:=(s.num * r.den).natAbs) (k:=50) (by omega) (by omega)
    omega)
   refine tx X2B Q6u [] (by kernel_rfl) ?_
   simp -dsimp(disch:=first|exact om|fail)only[go_sem,simprocAttr,xE,xN,xC,xP,xA,xZ]
   refine callP (X2F f g hf hg r s (by omega) (by omega) (by omega) (by omega)) lL ?_
   simp -dsimp(disch:=first|exact om|fail)only[go_sem,simprocAttr,xE,xN,xC,xP,xA,xZ]
   refine callP (fit_c (r + s) l1 l2) lL ?_
   simp -dsimp(disch:=first|exact om|fail)only[go_sem,simprocAttr,xE,xN,xC,xP,xA,xZ]
theorem sub_c (f g : Fl) (hf : f ≠ .u) (hg : g ≠ .u) (x y : FQ) : PC PP Q6f [pQ f x,pQ g y] (pQ .s (x.sub y)) []:=by
 obtain ⟨x,hx⟩:=x
 obtain ⟨y,hy⟩:=y
 cases x with
 | none =>
  show PC PP Q6f [.lit (.pointer none),pQ g ⟨y,hy⟩] (.lit (.pointer none)) []
  refine tx X2v Q6r [] (by kernel_rfl) ?_
  simp -dsimp(disch:=first|exact om|fail)only[go_sem,simprocAttr,xE,xN,xC,xP,xA,xZ]
 | some r =>
  cases y with
  | none =>
   show PC PP Q6f [pR f r,.lit (.pointer none)] (.lit (.pointer none)) []
   refine tx X2v Q6r [] (by kernel_rfl) ?_
   simp -dsimp(disch:=first|exact om|fail)only[go_sem,simprocAttr,xE,xN,xC,xP,xA,xZ]
  | some s =>
   show PC PP Q6f [pR f r,pR g s] (pQ .s (FQ.fit (r - s))) []
   have h1:=hx r rfl
   have h2:=hy s rfl
   obtain ⟨l1,l2⟩:=X8O (t:=r - s) h1 h2 (z:=r.num * s.den - s.num * r.den) (by rw [Rat.sub_def,Rat.normalize_eq_mkRat]) (by
    have m1:=Q0g (a:=r.num.natAbs) (d:=s.den)
    have m2:=Q0g (a:=s.num.natAbs) (d:=r.den)
    rw [X4i] at m1 m2
    have h5:=Q0j (Int.natAbs_sub_le (r.num * s.den) (s.num * r.den))
    have h8:=Q5L (a:=(r.num * s.den).natAbs) (b:=(s.num * r.den).natAbs) (k:=50) (by omega) (by omega)
    omega)
   refine tx X2v Q6r [] (by kernel_rfl) ?_
   simp -dsimp(disch:=first|exact om|fail)only[go_sem,simprocAttr,xE,xN,xC,xP,xA,xZ]
   refine callP (X6y f g hf hg r s (by omega) (by omega) (by omega) (by omega)) lL ?_
   simp -dsimp(disch:=first|exact om|fail)only[go_sem,simprocAttr,xE,xN,xC,xP,xA,xZ]
   refine callP (fit_c (r - s) l1 l2) lL ?_
   simp -dsimp(disch:=first|exact om|fail)only[go_sem,simprocAttr,xE,xN,xC,xP,xA,xZ]
theorem mul_c (f g : Fl) (hf : f ≠ .u) (hg : g ≠ .u) (x y : FQ) : PC PP Q6h [pQ f x,pQ g y] (pQ .s (x.mul y)) []:=by
 obtain ⟨x,hx⟩:=x
 obtain ⟨y,hy⟩:=y
 cases x with
 | none =>
  show PC PP Q6h [.lit (.pointer none),pQ g ⟨y,hy⟩] (.lit (.pointer none)) []
  refine tx X2y Q6s [] (by kernel_rfl) ?_
  simp -dsimp(disch:=first|exact om|fail)only[go_sem,simprocAttr,xE,xN,xC,xP,xA,xZ]
 | some r =>
  cases y with
  | none =>
   show PC PP Q6h [pR f r,.lit (.pointer none)] (.lit (.pointer none)) []
   refine tx X2y Q6s [] (by kernel_rfl) ?_
   simp -dsimp(disch:=first|exact om|fail)only[go_sem,simprocAttr,xE,xN,xC,xP,xA,xZ]
  | some s =>
   show PC PP Q6h [pR f r,pR g s] (pQ .s (FQ.fit (r * s))) []
   have h1:=hx r rfl
   have h2:=hy s rfl
   obtain ⟨l1,l2⟩:=X8O (t:=r * s) h1 h2 (z:=r.num * s.num) (by rw [Rat.mul_def,Rat.normalize_eq_mkRat]) (by
    have m1:=Q0g (a:=r.num.natAbs) (d:=s.num.natAbs)
    rw [← Int.natAbs_mul] at m1
    omega)
   refine tx X2y Q6s [] (by kernel_rfl) ?_
   simp -dsimp(disch:=first|exact om|fail)only[go_sem,simprocAttr,xE,xN,xC,xP,xA,xZ]
   refine callP (X0G f g hf hg r s (by omega) (by omega) (by omega) (by omega)) lL ?_
   simp -dsimp(disch:=first|exact om|fail)only[go_sem,simprocAttr,xE,xN,xC,xP,xA,xZ]
   refine callP (fit_c (r * s) l1 l2) lL ?_
   simp -dsimp(disch:=first|exact om|fail)only[go_sem,simprocAttr,xE,xN,xC,xP,xA,xZ]
theorem X0U (f : Fl) (hf : f ≠ .u) (r : RD) (hr : r.small) : PB PP Q6J [rV f r] (pQ .b (rdq r)) []:=by
 refine txb X9v X2Q [] [] [] (by kernel_rfl) ?_
 simp -dsimp(disch:=first|exact om|fail)only[go_sem,simprocAttr,xE,xN,xC,xP,xA,xZ]
 refine callP (X7U f hf r hr) lL ?_
 cases h1 : r.ok
 ·rw [Y6j h1,Y9X]
  simp -dsimp(disch:=first|exact om|fail)only[go_sem,simprocAttr,xE,xN,xC,xP,xA,xZ]
  exact RtB.nothing [] (by decide) trivial lW
 ·obtain ⟨x,rfl,hx⟩:=ok_qd h1
  rw [Q9m]
  obtain ⟨x,hok⟩:=x
  cases x with
  | none=>cases hx
  | some q =>
   simp -dsimp(disch:=first|exact om|fail)only[go_sem,simprocAttr,xE,xN,xC,xP,xA,xZ]
   refine RtB.shareb (cs:=rtC f q) (cs':=rtC .b q) 1 rfl lW lW lW ?_
   exact RtB.nothing [] (by decide) trivial (of_eq_true (Y6g lW))
theorem X8B (f : Fl) (hf : f ≠ .u) (x : FQ) : PC PP Q1x [pQ f x] (rV .s (qd x)) []:=by
 obtain ⟨x,hx⟩:=x
 cases x with
 | none =>
  show PC PP Q1x [.lit (.pointer none)] (rV .s (qd FQ.bad)) []
  rw [Q9n]
  refine tx Q5n Q2o [] (by kernel_rfl) ?_
  simp -dsimp(disch:=first|exact om|fail)only[go_sem,simprocAttr,xE,xN,xC,xP,xA,xZ]
 | some r =>
  have h1:=hx r rfl
  show PC PP Q1x [pR f r] (.agg [Bo (zb r.num),sI .s (lim r.num.natAbs),sI .s (lim r.den)]) []
  refine tx Q5n Q2o [] (by kernel_rfl) ?_
  simp -dsimp(disch:=first|exact om|fail)only[go_sem,simprocAttr,xE,xN,xC,xP,xA,xZ]
  refine callP (Y6U f hf r.num (by omega)) lL ?_
  simp -dsimp(disch:=first|exact om|fail)only[go_sem,simprocAttr,xE,xN,xC,xP,xA,xZ]
  refine callP (X9m f hf (lim r.den) (by omega)) lL ?_
  simp -dsimp(disch:=first|exact om|fail)only[go_sem,simprocAttr,xE,xN,xC,xP,xA,xZ]
theorem X6J (f g : Fl) (hf : f ≠ .u) (hg : g ≠ .u) (r s : RD) (hr : r.small) (hs : s.small) : PC PP X1S [rV f r,rV g s] (rV .s (qd ((rdq r).add (rdq s)))) []:=by
 refine tx X7k Q9F [] (by kernel_rfl) ?_
 simp -dsimp(disch:=first|exact om|fail)only[go_sem,simprocAttr,xE,xN,xC,xP,xA,xZ]
 refine callB' (X0U f hf r hr) lB lF ?_
 simp -dsimp(disch:=first|exact om|fail)only[go_sem,simprocAttr,xE,xN,xC,xP,xA,xZ]
 refine callB' (X0U g hg s hs) lB lF ?_
 simp -dsimp(disch:=first|exact om|fail)only[go_sem,simprocAttr,xE,xN,xC,xP,xA,xZ]
 refine callP (add_c .b .b flb flb (rdq r) (rdq s)) lL ?_
 simp -dsimp(disch:=first|exact om|fail)only[go_sem,simprocAttr,xE,xN,xC,xP,xA,xZ]
 refine callP (X8B .s fls ((rdq r).add (rdq s))) lL ?_
 simp -dsimp(disch:=first|exact om|fail)only[go_sem,simprocAttr,xE,xN,xC,xP,xA,xZ]
theorem PC.nilO {f : FuncId} {r : V} {objs : List Ob} {fl : Fl} (hf : fl ≠ .u) (h : ∀ (a : Option Addr) (c : Nat),c ≤ maxLen → PC PP f [.lit (.slice a 0 c)] r objs) : PC PP f [.sl fl 1 0 []] r objs:=by
 refine ⟨(h none 0 (by decide)).1,fun w S B xs hb hr=>?_⟩
 obtain ⟨x,xs',u1,u2,rfl,e2,e3,e4,e5⟩:=hr
 subst e4
 obtain ⟨a,c,rfl,_,hc,_⟩:=e3
 exact (h a c hc).2 w S B _ hb ⟨_,_,[],[],rfl,rfl,⟨rfl,rfl,rfl⟩,rfl,rfl⟩
theorem Y3A (f : Fl) (hf : f ≠ .u) (l : List Int) (hl : l.length ≤ 1048576) : GC PP Q1l [sI f l] [] (.rsl 0 1 0 l.length) [⟨.own,T_int,iC l⟩]:=by
 by_cases h0 : l.length = 0
 ·obtain rfl:=List.eq_nil_of_length_eq_zero h0
  refine PC.gc (PC.nilO hf fun a c hc=>GC.pc ?_)
  cases a with
  | none =>
   refine txg Q0t Q0n 0 [] [] [] rfl (by kernel_rfl) ?_
   simp -dsimp(disch:=first|exact om|fail)only[go_sem,simprocAttr,xE,xN,xC,xP,xA,xZ,Option.isNone_none]
   exact RtG.ren [none] [[]] trivial (by decide) (by simp -dsimp only [go_sem,simprocAttr]; simp [iC]) (by simp -dsimp only [go_sem,simprocAttr])
  | some a =>
   refine txg Q0t Q0n 0 [] [3] [] rfl (by kernel_rfl) ?_
   simp -dsimp(disch:=first|exact om|fail)only[go_sem,simprocAttr,xE,xN,xC,xP,xA,xZ,Option.isNone_some]
   refine ⟨⟨[(0,.sl .b 1 0 [])],[]⟩,StI.var ?_, ?_⟩
   ·intro t v ht
    by_cases e : t = 0
    ·subst e
     obtain rfl : V.sl .b 1 0 [] = v:=Option.some.inj ht
     refine ⟨_,rfl, ?_⟩
     rintro w S B κ x ⟨_,rfl,_⟩
     exact ⟨_,_,rfl,Nat.zero_le _,hc,rfl,.inl ⟨rfl,rfl,by intro h; cases h⟩⟩
    ·have e' : (t == 0) = false:=by simpa using e
     simp only [List.lookup,e'] at ht
     cases ht
   ·simp -dsimp(disch:=first|exact om|fail)only[go_sem,simprocAttr,xE,xN,xC,xP,xA,xZ]
    exact RtG.nothing [some 0] trivial (by decide) (by simp -dsimp only [go_sem,simprocAttr]; exact RnL.nil _ _) lW
 ·have : 0 < l.length:=by omega
  refine txg Q0t Q0n 0 [] [] [] rfl (by kernel_rfl) ?_
  simp -dsimp(disch:=first|exact om|fail)only[go_sem,simprocAttr,xE,xN,xC,xP,xA,xZ]
  exact RtG.nothing [some 0] lE (by decide) lS lE
theorem Y6T (f : Fl) (hf : f ≠ .u) (z : Int) (hz : (lim z.natAbs).length ≤ 60) : GC PP Q1T [zV f z] [] (.agg [Bo (zb z),.rsl 0 1 0 (lim z.natAbs).length]) [⟨.own,T_int,iC (lim z.natAbs)⟩]:=by
 refine txg Q4y Q1E 0 [] [] [] rfl (by kernel_rfl) ?_
 simp -dsimp(disch:=first|exact om|fail)only[go_sem,simprocAttr,xE,xN,xC,xP,xA,xZ]
 refine callO' (Y3A f hf (lim z.natAbs) (by omega)) lL lF ?_
 simp -dsimp(disch:=first|exact om|fail)only[go_sem,simprocAttr,xE,xN,xC,xP,xA,xZ]
 exact RtG.nothing [some 2] lE (by decide) lS lE
theorem X6q (f : Fl) (hf : f ≠ .u) (x : FQ) : GC PP Q1x [pQ f x] [] (rO (qd x)) (rH (qd x)):=by
 obtain ⟨x,hx⟩:=x
 cases x with
 | none =>
  show GC PP Q1x [.lit (.pointer none)] [] (rO (qd FQ.bad)) (rH (qd FQ.bad))
  rw [Q9n]
  refine txg Q5n Q2o 0 [] [] [] rfl (by kernel_rfl) ?_
  simp -dsimp(disch:=first|exact om|fail)only[go_sem,simprocAttr,xE,xN,xC,xP,xA,xZ]
  exact RtG.ren [none,none] [[],[]] trivial (by decide) (by simp -dsimp only [go_sem,simprocAttr]; simp [iC]) lW
 | some r =>
  have h1:=hx r rfl
  show GC PP Q1x [pR f r] [] (.agg [Bo (zb r.num),.rsl 0 1 0 (lim r.num.natAbs).length,.rsl 1 1 0 (lim r.den).length]) [⟨.own,T_int,iC (lim r.num.natAbs)⟩,⟨.own,T_int,iC (lim r.den)⟩]
  refine txg Q5n Q2o 0 [] [] [] rfl (by kernel_rfl) ?_
  simp -dsimp(disch:=first|exact om|fail)only[go_sem,simprocAttr,xE,xN,xC,xP,xA,xZ]
  refine callO' (Y6T f hf r.num (by omega)) lL lF ?_
  simp -dsimp(disch:=first|exact om|fail)only[go_sem,simprocAttr,xE,xN,xC,xP,xA,xZ]
  refine callO' (Y3A f hf (lim r.den) (by omega)) lL lF ?_
  simp -dsimp(disch:=first|exact om|fail)only[go_sem,simprocAttr,xE,xN,xC,xP,xA,xZ]
  exact RtG.nothing [some 1,some 2] lE (by decide) lS lE
end Go.Proofs.Ytchlpclgkhggeaa