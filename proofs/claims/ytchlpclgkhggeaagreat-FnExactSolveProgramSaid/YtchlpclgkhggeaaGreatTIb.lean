/- part of the proof -/
import Derived.Test.YtchlpclgkhggeaaGreatTIa
namespace Go.Proofs.YtchlpclgkhggeaaGreat
open Go Go.RowKit
set_option maxRecDepth 100000
set_option maxHeartbeats 1600000
set_option linter.unusedVariables false
set_option linter.unusedSimpArgs false
abbrev zV (f : Fl) (z : Int) : V := .agg (bC f (zb z) (lim z.natAbs))
def rtC (f : Fl) (r : Rat) : List V := [Bo (zb r.num), sI f (lim r.num.natAbs), sI f (lim r.den)]
@[go_sem] theorem Z0U {f : Fl} {r : Rat} : rtC f r = [Bo (zb r.num), sI f (lim r.num.natAbs), sI f (lim r.den)] := (rfl)
abbrev pR (f : Fl) (r : Rat) : V := .ptr f (rtC f r)
def pQ (f : Fl) (x : FQ) : V := match x.1 with
 | none => .lit (.pointer none)
 | some r => pR f r
theorem X1z (f : Fl) (x : FQ) : pQ f x = .lit (.pointer none) ∨ ∃ r, pQ f x = pR f r := by
 unfold pQ; split
 ·exact .inl rfl
 ·exact .inr ⟨_, rfl⟩
@[go_sem] theorem Z4s {f : Fl} {x : FQ} : V.cells (pQ f x) = some [pQ f x] := by
 rcases X1z f x with h | ⟨r, h⟩ <;> rw [h] <;> rfl
@[go_sem] theorem Z7o {f : Fl} {x : FQ} : V.cell (pQ f x) = True := by
 rcases X1z f x with h | ⟨r, h⟩ <;> rw [h] <;> rfl
@[go_sem] theorem Y8D {f : Fl} {x : FQ} : V.flat (pQ f x) = True := by
 rcases X1z f x with h | ⟨r, h⟩ <;> rw [h] <;> rfl
@[go_sem] theorem nu_pQ {f : Fl} {x : FQ} (hf : f ≠ .u) : V.nu (pQ f x) = True := by
 rcases X1z f x with h | ⟨r, h⟩ <;> rw [h]
 ·rfl
 ·cases f
  ·rfl
  ·rfl
  ·exact absurd rfl hf
@[go_sem] theorem Y4d {H : List Ob} {js : List (Option Nat)} {f : Fl} {sz n : Nat} {cs : List V} (hf : f ≠ .u) : Rn H js true (.sl f sz n cs) (.sl .b sz n cs) [] = True := eq_true (Rn.lent hf)
theorem Y7B {a b : Nat} : cmpN a b = 0 ↔ a = b := by
 unfold cmpN
 split
 ·omega
 ·split <;> omega
theorem Q2D (z : Int) (b : Bool) (n : Nat) (e : sgn b n = z) : PC PP Q5W [Bo b, sI .s (lim n)] (zV .s z) [] := by
 subst e
 rw [zV, Q1O, Y1z]
 refine tx X2F Q4T [] (by kernel_rfl) ?_
 simp -dsimp(disch:=first|exact om|fail)only[go_sem,simprocAttr,xE,xN,xC,xP,xA,xZ]
 have := @Q0O n
 refine ⟨fun h => ?_, fun h => by rw [h]; rfl⟩
 rw [h, Bool.true_and]
 apply decide_eq_decide.2
 constructor
 ·intro h; exact this.2 (by omega)
 ·intro h; have := this.1 h; omega
theorem Y6r (z : Int) (b : Bool) (n : Nat) (f : Fl) (hf : f ≠ .u) (e : sgn b n = z) : PB PP Q5W [Bo b, sI f (lim n)] (zV .b z) [] := by
 subst e
 rw [zV, Q1O, Y1z]
 refine txb X2F Q4T [] [] [] (by kernel_rfl) ?_
 simp -dsimp(disch:=first|exact om|fail)only[go_sem,simprocAttr,xE,xN,xC,xP,xA,xZ]
 have := @Q0O n
 have e : decide (0 < ((lim n).length : Int)) = decide (0 < n) := by
  apply decide_eq_decide.2
  constructor
  ·intro h; exact this.2 (by omega)
  ·intro h; have := this.1 h; omega
 rw [e]
 refine ⟨fun h => ?_, fun h => ?_⟩
 ·rw [h, Bool.true_and]; exact RtB.nothing [] (by decide) trivial (by simp -dsimp(disch:=first|exact om|fail)only[go_sem,simprocAttr,xE,xN,xC,xP,xA,xZ, Y4d])
 ·rw [h, Bool.false_and]; exact RtB.nothing [] (by decide) trivial (by simp -dsimp(disch:=first|exact om|fail)only[go_sem,simprocAttr,xE,xN,xC,xP,xA,xZ, Y4d])
theorem Y2X (z : Int) (f : Fl) (hf : f ≠ .u) : PB PP Q1n [zV f z] (zV .b (-z)) [] := by
 refine txb Q2u Q1e [] [] [] (by kernel_rfl) ?_
 simp -dsimp(disch:=first|exact om|fail)only[go_sem,simprocAttr,xE,xN,xC,xP,xA,xZ]
 refine callB' (Y6r (-z) (!zb z) z.natAbs f hf (Y0J z)) lB lF ?_
 simp -dsimp(disch:=first|exact om|fail)only[go_sem,simprocAttr,xE,xN,xC,xP,xA,xZ]
 exact RtB.nothing [] (by decide) trivial (by simp -dsimp(disch:=first|exact om|fail)only[go_sem,simprocAttr,xE,xN,xC,xP,xA,xZ, Y4d])
theorem Q4C (f g : Fl) (hf : f ≠ .u) (hg : g ≠ .u) (x y : Int) (hx : (lim x.natAbs).length ≤ 1000000) (hy : (lim y.natAbs).length ≤ 1000000) : PC PP Q4Q [zV f x, zV g y] (zV .s (x + y)) [] := by
 refine tx X2J Q3R [] (by kernel_rfl) ?_
 simp -dsimp(disch:=first|exact om|fail)only[go_sem,simprocAttr,xE,xN,xC,xP,xA,xZ]
 refine callP (Q8a f g hf hg x.natAbs y.natAbs (by omega) (by omega)) lL ?_
 by_cases hs : zb x = zb y
 ·rw [hs]
  simp -dsimp(disch:=first|exact om|fail)only[go_sem,simprocAttr,xE,xN,xC,xP,xA,xZ, BEq.rfl]
  refine callP (Z1n f g hf hg x.natAbs y.natAbs (by omega) (by omega)) lL ?_
  simp -dsimp(disch:=first|exact om|fail)only[go_sem,simprocAttr,xE,xN,xC,xP,xA,xZ]
  refine callP (Q2D (x + y) (zb y) (x.natAbs + y.natAbs) (by rw [Y3X, Q1o, ← hs, Q1o])) lL ?_
  simp -dsimp(disch:=first|exact om|fail)only[go_sem,simprocAttr,xE,xN,xC,xP,xA,xZ]
 ·have e : (zb x == zb y) = false := by simpa using hs
  have key : x + y = sgn (zb x) x.natAbs + sgn (!zb x) y.natAbs := by
   have : (!zb x) = zb y := by cases h1 : zb x <;> cases h2 : zb y <;> simp [h1, h2] at hs ⊢
   rw [this, Q1o, Q1o]
  by_cases hc : y.natAbs ≤ x.natAbs
  ·have h1 : 0 ≤ cmpN x.natAbs y.natAbs := Y7A.2 hc
   simp -dsimp(disch:=first|exact om|fail)only[go_sem,simprocAttr,xE,xN,xC,xP,xA,xZ, e]
   refine callP (Y4L f g hf hg x.natAbs y.natAbs hc (by omega)) lL ?_
   simp -dsimp(disch:=first|exact om|fail)only[go_sem,simprocAttr,xE,xN,xC,xP,xA,xZ]
   refine callP (Q2D (x + y) (zb x) (x.natAbs - y.natAbs) (by
    rw [key]; unfold sgn; cases zb x <;> simp <;> omega)) lW ?_
   simp -dsimp(disch:=first|exact om|fail)only[go_sem,simprocAttr,xE,xN,xC,xP,xA,xZ]
  ·have h1 : ¬ 0 ≤ cmpN x.natAbs y.natAbs := by rw [X2y (by omega)]; decide
   simp -dsimp(disch:=first|exact om|fail)only[go_sem,simprocAttr,xE,xN,xC,xP,xA,xZ, e]
   refine callP (Y4L g f hg hf y.natAbs x.natAbs (by omega) (by omega)) lL ?_
   simp -dsimp(disch:=first|exact om|fail)only[go_sem,simprocAttr,xE,xN,xC,xP,xA,xZ]
   refine callP (Q2D (x + y) (zb y) (y.natAbs - x.natAbs) (by
    have : zb y = !zb x := by cases h1 : zb x <;> cases h2 : zb y <;> simp [h1, h2] at hs ⊢
    rw [key, this]; unfold sgn; cases zb x <;> simp <;> omega)) lW ?_
   simp -dsimp(disch:=first|exact om|fail)only[go_sem,simprocAttr,xE,xN,xC,xP,xA,xZ]
theorem Q3T (f g : Fl) (hf : f ≠ .u) (hg : g ≠ .u) (x y : Int) (hx : (lim x.natAbs).length ≤ 1000000) (hy : (lim y.natAbs).length ≤ 1000000) : PC PP Q4g [zV f x, zV g y] (zV .s (x - y)) [] := by
 refine tx X1l Q3m [] (by kernel_rfl) ?_
 simp -dsimp(disch:=first|exact om|fail)only[go_sem,simprocAttr,xE,xN,xC,xP,xA,xZ]
 refine callB' (Y2X y g hg) lB lF ?_
 simp -dsimp(disch:=first|exact om|fail)only[go_sem,simprocAttr,xE,xN,xC,xP,xA,xZ]
 refine callP (Q4C f .b hf flb x (-y) hx (by rw [Int.natAbs_neg]; omega)) lL ?_
 simp -dsimp(disch:=first|exact om|fail)only[go_sem,simprocAttr,xE,xN,xC,xP,xA,xZ]
 rw [Int.sub_eq_add_neg]
 simp -dsimp(disch:=first|exact om|fail)only[go_sem,simprocAttr,xE,xN,xC,xP,xA,xZ]
theorem Q0x (f g : Fl) (hf : f ≠ .u) (hg : g ≠ .u) (x y : Int) (hx : (lim x.natAbs).length ≤ 1000000) (hy : (lim y.natAbs).length ≤ 1000000) : PC PP Q4f [zV f x, zV g y] (zV .s (x * y)) [] := by
 refine tx X1k Q3l [] (by kernel_rfl) ?_
 simp -dsimp(disch:=first|exact om|fail)only[go_sem,simprocAttr,xE,xN,xC,xP,xA,xZ]
 refine callP (X5k f g hf hg x.natAbs y.natAbs (by omega) (by omega)) lL ?_
 simp -dsimp(disch:=first|exact om|fail)only[go_sem,simprocAttr,xE,xN,xC,xP,xA,xZ]
 refine callP (Q2D (x * y) (zb x != zb y) (x.natAbs * y.natAbs) (Y1Q x y)) lL ?_
 simp -dsimp(disch:=first|exact om|fail)only[go_sem,simprocAttr,xE,xN,xC,xP,xA,xZ]
theorem Y1R (f g : Fl) (hf : f ≠ .u) (hg : g ≠ .u) (r : Rat) (n : Nat) (h1 : (lim r.num.natAbs).length ≤ 1000000) (h2 : (lim n).length ≤ 1000000) : PC PP Q4e [pR f r, sI g (lim n)] (zV .s (r.num * n)) [] := by
 refine tx X1i Q3j [] (by kernel_rfl) ?_
 simp -dsimp(disch:=first|exact om|fail)only[go_sem,simprocAttr,xE,xN,xC,xP,xA,xZ]
 refine callP (X5k f g hf hg r.num.natAbs n (by omega) (by omega)) lL ?_
 simp -dsimp(disch:=first|exact om|fail)only[go_sem,simprocAttr,xE,xN,xC,xP,xA,xZ]
 refine callP (Q2D (r.num * n) (zb r.num) (r.num.natAbs * n) (by rw [X1u, Q1o])) lL ?_
 simp -dsimp(disch:=first|exact om|fail)only[go_sem,simprocAttr,xE,xN,xC,xP,xA,xZ]
theorem Le.pRb {H : List Ob} {g : Fl} (hg : g ≠ .u) (r : Rat) : Le H .b (pR g r) (pR g r) := by
 cases g with
 | s => exact .ptr _ _ _ _ (.inl rfl) lW
 | b => exact .ptr _ _ _ _ ⟨rfl, rfl⟩ lW
 | u => exact absurd rfl hg
theorem Le.pRs {H : List Ob} {f : Fl} (r : Rat) : Le H f (pR .s r) (pR .s r) := .ptr _ _ _ _ (.inl rfl) lW
@[go_sem] theorem le_pR {H : List Ob} {g : Fl} {r : Rat} (hg : g ≠ .u) : Le H .b (pR g r) (pR g r) = True := eq_true (Le.pRb hg r)
@[go_sem] theorem Z8D {H : List Ob} {f : Fl} {r : Rat} : Le H f (pR .s r) (pR .s r) = True := eq_true (Le.pRs r)
@[go_sem] theorem Z1K {H : List Ob} {f : Fl} {x : FQ} : Le H f (pQ .s x) (pQ .s x) = True := by
 apply eq_true; unfold pQ; split
 ·exact .lit _
 ·exact Le.pRs _
theorem Le.refR {H : List Ob} {f : Fl} {id off : Nat} {ty : TypeId} {cs : List V} {r : Rat} (h : H[id]? = some ⟨.own, ty, cs⟩) (e : LeL H f (cs.drop off) (rtC f r)) : Le H f (.ref id off) (pR f r) := .ref id off _ _ h (.inl rfl) e
theorem Y2Y (z : Int) (d : Nat) (hd : d ≠ 0) : (mkRat z d).num = sgn (zb z) (z.natAbs / Nat.gcd z.natAbs d) ∧ (mkRat z d).den = d / Nat.gcd z.natAbs d := by
 have := X9V (zb z) z.natAbs d hd
 rwa [Q1o] at this
theorem X8w (z : Int) (d : Nat) (hd : 0 < d) (h1 : (lim z.natAbs).length ≤ 1000000) (h2 : (lim d).length ≤ 1000000) : PC PP X3e [zV .s z, sI .s (lim d)] (pR .s (mkRat z d)) [] := by
  refine tx X9u X0e [] (by kernel_rfl) ?_
  obtain ⟨e1, e2⟩ := Y2Y z d (by omega)
  by_cases h0 : z = 0
  · subst h0
    have e3 : mkRat 0 d = 0 := by rw [Rat.zero_mkRat]
    rw [e3]
    have l0 : lim (Int.natAbs 0) = [] := Q0j
    simp -dsimp(disch:=first|exact om|fail)only[go_sem,↓reduceIte,Nat.reduceEqDiff,Nat.reduceAdd,Nat.reduceSub,Nat.reduceMul,Nat.reduceLT,Nat.reduceLeDiff,reduceCtorEq,xE,xN,xC,xP,xA,xZ,Int.reduceToNat, l0, X9J]
    exact Le.refR rfl (by show LeL _ _ _ [Bo (zb 0), sI .s (lim 0), sI .s (lim 1)]; simp -dsimp(disch:=first|exact om|fail)only[go_sem,↓reduceIte,Nat.reduceEqDiff,Nat.reduceAdd,Nat.reduceSub,Nat.reduceMul,Nat.reduceLT,Nat.reduceLeDiff,reduceCtorEq,xE,xN,xC,xP,xA,xZ,Int.reduceToNat, Q0j]; rfl)
  · have hz : 0 < z.natAbs := by omega
    have hl := Q0O.1 hz
    have hg0 : 0 < Nat.gcd z.natAbs d := Nat.gcd_pos_of_pos_right _ hd
    have hgl := X7K z.natAbs d hd
    simp -dsimp(disch:=first|exact om|fail)only[go_sem,↓reduceIte,Nat.reduceEqDiff,Nat.reduceAdd,Nat.reduceSub,Nat.reduceMul,Nat.reduceLT,Nat.reduceLeDiff,reduceCtorEq,xE,xN,xC,xP,xA,xZ,Int.reduceToNat]
    refine callP (Y5x z.natAbs d (by omega) (by omega)) lL ?_
    simp -dsimp(disch:=first|exact om|fail)only[go_sem,↓reduceIte,Nat.reduceEqDiff,Nat.reduceAdd,Nat.reduceSub,Nat.reduceMul,Nat.reduceLT,Nat.reduceLeDiff,reduceCtorEq,xE,xN,xC,xP,xA,xZ,Int.reduceToNat, X9J]
    refine callP (Q8a .s .s fls fls (Nat.gcd z.natAbs d) 1 (by omega) (by rw [Q8U]; decide)) lL ?_
    by_cases h3 : Nat.gcd z.natAbs d = 1
    · have h4 : cmpN (Nat.gcd z.natAbs d) 1 = 0 := Y7B.2 h3
      rw [h3, Nat.div_one, Q1o] at e1
      rw [h3, Nat.div_one] at e2
      simp -dsimp(disch:=first|exact om|fail)only[go_sem,↓reduceIte,Nat.reduceEqDiff,Nat.reduceAdd,Nat.reduceSub,Nat.reduceMul,Nat.reduceLT,Nat.reduceLeDiff,reduceCtorEq,xE,xN,xC,xP,xA,xZ,Int.reduceToNat, h4]
      exact Le.refR rfl (by rw [Z0U, e1, e2]; simp -dsimp(disch:=first|exact om|fail)only[go_sem,↓reduceIte,Nat.reduceEqDiff,Nat.reduceAdd,Nat.reduceSub,Nat.reduceMul,Nat.reduceLT,Nat.reduceLeDiff,reduceCtorEq,xE,xN,xC,xP,xA,xZ,Int.reduceToNat])
    · have h4 : ¬ cmpN (Nat.gcd z.natAbs d) 1 = 0 := fun h => h3 (Y7B.1 h)
      simp -dsimp(disch:=first|exact om|fail)only[go_sem,↓reduceIte,Nat.reduceEqDiff,Nat.reduceAdd,Nat.reduceSub,Nat.reduceMul,Nat.reduceLT,Nat.reduceLeDiff,reduceCtorEq,xE,xN,xC,xP,xA,xZ,Int.reduceToNat, h4]
      refine callP (Y2e .s .s fls fls z.natAbs (Nat.gcd z.natAbs d) hg0 (by omega) (by omega)) lL ?_
      simp -dsimp(disch:=first|exact om|fail)only[go_sem,↓reduceIte,Nat.reduceEqDiff,Nat.reduceAdd,Nat.reduceSub,Nat.reduceMul,Nat.reduceLT,Nat.reduceLeDiff,reduceCtorEq,xE,xN,xC,xP,xA,xZ,Int.reduceToNat]
      refine callP (Y2e .s .s fls fls d (Nat.gcd z.natAbs d) hg0 (by omega) (by omega)) lL ?_
      simp -dsimp(disch:=first|exact om|fail)only[go_sem,↓reduceIte,Nat.reduceEqDiff,Nat.reduceAdd,Nat.reduceSub,Nat.reduceMul,Nat.reduceLT,Nat.reduceLeDiff,reduceCtorEq,xE,xN,xC,xP,xA,xZ,Int.reduceToNat]
      refine callP (Q2D (mkRat z d).num (zb z) (z.natAbs / Nat.gcd z.natAbs d) e1.symm) lL ?_
      rw [← e2]
      simp -dsimp(disch:=first|exact om|fail)only[go_sem,↓reduceIte,Nat.reduceEqDiff,Nat.reduceAdd,Nat.reduceSub,Nat.reduceMul,Nat.reduceLT,Nat.reduceLeDiff,reduceCtorEq,xE,xN,xC,xP,xA,xZ,Int.reduceToNat]
theorem X7L {a b k : Nat} (ha : (lim a).length ≤ k) (hb : (lim b).length ≤ k) : (lim (a + b)).length ≤ k + 1 := by
 rw [Q0d] at *
 rw [Int.pow_succ]
 generalize (1000000000 : Int) ^ k = P at *
 omega
theorem X9M (f g : Fl) (hf : f ≠ .u) (hg : g ≠ .u) (r s : Rat) (h1 : (lim r.num.natAbs).length ≤ 1000) (h2 : (lim r.den).length ≤ 1000) (h3 : (lim s.num.natAbs).length ≤ 1000) (h4 : (lim s.den).length ≤ 1000) : PC PP Q5G [pR f r, pR g s] (pR .s (r + s)) [] := by
 refine tx X3N Q4A [] (by kernel_rfl) ?_
 simp -dsimp(disch:=first|exact om|fail)only[go_sem,simprocAttr,xE,xN,xC,xP,xA,xZ]
 refine callP (Y1R f g hf hg r s.den (by omega) (by omega)) lL ?_
 simp -dsimp(disch:=first|exact om|fail)only[go_sem,simprocAttr,xE,xN,xC,xP,xA,xZ]
 refine callP (Y1R g f hg hf s r.den (by omega) (by omega)) lL ?_
 simp -dsimp(disch:=first|exact om|fail)only[go_sem,simprocAttr,xE,xN,xC,xP,xA,xZ]
 have m1 := Q0w (a := r.num.natAbs) (d := s.den)
 have m2 := Q0w (a := s.num.natAbs) (d := r.den)
 have m3 := Q0w (a := r.den) (d := s.den)
 rw [X0U] at m1 m2
 refine callP (Q4C .s .s fls fls (r.num * s.den) (s.num * r.den) (by omega) (by omega)) lL ?_
 simp -dsimp(disch:=first|exact om|fail)only[go_sem,simprocAttr,xE,xN,xC,xP,xA,xZ]
 refine callP (X5k f g hf hg r.den s.den (by omega) (by omega)) lL ?_
 simp -dsimp(disch:=first|exact om|fail)only[go_sem,simprocAttr,xE,xN,xC,xP,xA,xZ]
 have hl : (lim (r.num * s.den + s.num * r.den).natAbs).length ≤ 1000000 := by
  have h5 := Q0f (Int.natAbs_add_le (r.num * s.den) (s.num * r.den))
  have h8 := X7L (a := (r.num * s.den).natAbs) (b := (s.num * r.den).natAbs) (k := 2000) (by omega) (by omega)
  omega
 refine callP (X8w (r.num * s.den + s.num * r.den) (r.den * s.den) (Nat.mul_pos r.den_pos s.den_pos) hl (by omega)) lL ?_
 have e : mkRat (r.num * s.den + s.num * r.den) (r.den * s.den) = r + s := by rw [Rat.add_def, Rat.normalize_eq_mkRat]
 rw [e]
 simp -dsimp(disch:=first|exact om|fail)only[go_sem,simprocAttr,xE,xN,xC,xP,xA,xZ]
theorem X8s (f g : Fl) (hf : f ≠ .u) (hg : g ≠ .u) (r s : Rat) (h1 : (lim r.num.natAbs).length ≤ 1000) (h2 : (lim r.den).length ≤ 1000) (h3 : (lim s.num.natAbs).length ≤ 1000) (h4 : (lim s.den).length ≤ 1000) : PC PP Q4N [pR f r, pR g s] (pR .s (r * s)) [] := by
 refine tx X2G Q3O [] (by kernel_rfl) ?_
 have m1 := Q0w (a := r.num.natAbs) (d := s.num.natAbs)
 rw [← Int.natAbs_mul] at m1
 have m3 := Q0w (a := r.den) (d := s.den)
 simp -dsimp(disch:=first|exact om|fail)only[go_sem,simprocAttr,xE,xN,xC,xP,xA,xZ]
 refine callP (Q0x f g hf hg r.num s.num (by omega) (by omega)) lL ?_
 simp -dsimp(disch:=first|exact om|fail)only[go_sem,simprocAttr,xE,xN,xC,xP,xA,xZ]
 refine callP (X5k f g hf hg r.den s.den (by omega) (by omega)) lL ?_
 simp -dsimp(disch:=first|exact om|fail)only[go_sem,simprocAttr,xE,xN,xC,xP,xA,xZ]
 refine callP (X8w (r.num * s.num) (r.den * s.den) (Nat.mul_pos r.den_pos s.den_pos) (by omega) (by omega)) lL ?_
 have e : mkRat (r.num * s.num) (r.den * s.den) = r * s := by rw [Rat.mul_def, Rat.normalize_eq_mkRat]
 rw [e]
 simp -dsimp(disch:=first|exact om|fail)only[go_sem,simprocAttr,xE,xN,xC,xP,xA,xZ]
theorem Z1p (f : Fl) (r : Rat) : pQ f (FQ.fit r) = if (lim r.num.natAbs).length ≤ 24 ∧ (lim r.den).length ≤ 24 then pR f r else .lit (.pointer none) := by
 unfold FQ.fit
 by_cases h : (lim r.num.natAbs).length ≤ 24 ∧ (lim r.den).length ≤ 24
 ·rw [dif_pos h, if_pos h]; rfl
 ·rw [dif_neg h, if_neg h]; rfl
theorem fit_c (r : Rat) (h1 : (lim r.num.natAbs).length ≤ 1000000) (h2 : (lim r.den).length ≤ 1000000) : PC PP X7Y [pR .s r] (pQ .s (FQ.fit r)) [] := by
 refine tx Y3w X5P [] (by kernel_rfl) ?_
 rw [Z1p]
 by_cases a : (lim r.num.natAbs).length ≤ 24
 ·by_cases b : (lim r.den).length ≤ 24
  ·rw [if_pos ⟨a, b⟩]; simp -dsimp(disch:=first|exact om|fail)only[go_sem,simprocAttr,xE,xN,xC,xP,xA,xZ]
  ·rw [if_neg (fun h => b h.2)]; simp -dsimp(disch:=first|exact om|fail)only[go_sem,simprocAttr,xE,xN,xC,xP,xA,xZ]
 ·rw [if_neg (fun h => a h.1)]; simp -dsimp(disch:=first|exact om|fail)only[go_sem,simprocAttr,xE,xN,xC,xP,xA,xZ]
theorem PC.nilO {f : FuncId} {r : V} {objs : List Ob} {fl : Fl} (hf : fl ≠ .u) (h : ∀ (a : Option Addr) (c : Nat), c ≤ maxLen → PC PP f [.lit (.slice a 0 c)] r objs) : PC PP f [.sl fl 1 0 []] r objs := by
 refine ⟨(h none 0 (by decide)).1, fun w S B xs hb hr => ?_⟩
 obtain ⟨x, xs', u1, u2, rfl, e2, e3, e4, e5⟩ := hr
 subst e4
 obtain ⟨a, c, rfl, _, hc, _⟩ := e3
 exact (h a c hc).2 w S B _ hb ⟨_, _, [], [], rfl, rfl, ⟨rfl, rfl, rfl⟩, rfl, rfl⟩
theorem Y5O (f : Fl) (hf : f ≠ .u) (l : List Int) (hl : l.length ≤ 1048576) : GC PP Q1m [sI f l] [] (.rsl 0 1 0 l.length) [⟨.own, T_int, iC l⟩] := by
 by_cases h0 : l.length = 0
 ·obtain rfl := List.eq_nil_of_length_eq_zero h0
  refine PC.gc (PC.nilO hf fun a c hc => GC.pc ?_)
  cases a with
  | none =>
   refine txg Q0t Q0o 0 [] [] [] rfl (by kernel_rfl) ?_
   simp -dsimp(disch:=first|exact om|fail)only[go_sem,simprocAttr,xE,xN,xC,xP,xA,xZ, Option.isNone_none]
   exact RtG.ren [none] [[]] trivial (by decide) (by simp -dsimp only [go_sem,simprocAttr]; simp [iC]) (by simp -dsimp only [go_sem,simprocAttr])
  | some a =>
   refine txg Q0t Q0o 0 [] [3] [] rfl (by kernel_rfl) ?_
   simp -dsimp(disch:=first|exact om|fail)only[go_sem,simprocAttr,xE,xN,xC,xP,xA,xZ, Option.isNone_some]
   refine ⟨⟨[(0, .sl .b 1 0 [])], []⟩, StI.var ?_, ?_⟩
   ·intro t v ht
    by_cases e : t = 0
    ·subst e
     obtain rfl : V.sl .b 1 0 [] = v := Option.some.inj ht
     refine ⟨_, rfl, ?_⟩
     rintro w S B κ x ⟨_, rfl, _⟩
     exact ⟨_, _, rfl, Nat.zero_le _, hc, rfl, .inl ⟨rfl, rfl, by intro h; cases h⟩⟩
    ·have e' : (t == 0) = false := by simpa using e
     simp only [List.lookup, e'] at ht
     cases ht
   ·simp -dsimp(disch:=first|exact om|fail)only[go_sem,simprocAttr,xE,xN,xC,xP,xA,xZ]
    exact RtG.nothing [some 0] trivial (by decide) (by simp -dsimp only [go_sem,simprocAttr]; exact RnL.nil _ _) lW
 ·have : 0 < l.length := by omega
  refine txg Q0t Q0o 0 [] [] [] rfl (by kernel_rfl) ?_
  simp -dsimp(disch:=first|exact om|fail)only[go_sem,simprocAttr,xE,xN,xC,xP,xA,xZ]
  exact RtG.nothing [some 0] lE (by decide) lS lE
theorem Y8G (f : Fl) (hf : f ≠ .u) (z : Int) (hz : (lim z.natAbs).length ≤ 60) : GC PP Q4h [zV f z] [] (.agg [Bo (zb z), .rsl 0 1 0 (lim z.natAbs).length]) [⟨.own, T_int, iC (lim z.natAbs)⟩] := by
 refine txg X1m Q3n 0 [] [] [] rfl (by kernel_rfl) ?_
 simp -dsimp(disch:=first|exact om|fail)only[go_sem,simprocAttr,xE,xN,xC,xP,xA,xZ]
 refine callO' (Y5O f hf (lim z.natAbs) (by omega)) lL lF ?_
 simp -dsimp(disch:=first|exact om|fail)only[go_sem,simprocAttr,xE,xN,xC,xP,xA,xZ]
 exact RtG.nothing [some 2] lE (by decide) lS lE
theorem Y3P (f : Fl) (hf : f ≠ .u) (x : FQ) : GC PP Q4M [pQ f x] [] (rO (qd x)) (rH (qd x)) := by
 obtain ⟨x, hx⟩ := x
 cases x with
 | none =>
  show GC PP Q4M [.lit (.pointer none)] [] (rO (qd FQ.bad)) (rH (qd FQ.bad))
  rw [Q5Y]
  refine txg X4j Q5O 0 [] [] [] rfl (by kernel_rfl) ?_
  simp -dsimp(disch:=first|exact om|fail)only[go_sem,simprocAttr,xE,xN,xC,xP,xA,xZ]
  exact RtG.ren [none, none] [[], []] trivial (by decide) (by simp -dsimp only [go_sem,simprocAttr]; simp [iC]) lW
 | some r =>
  have h1 := hx r rfl
  show GC PP Q4M [pR f r] [] (.agg [Bo (zb r.num), .rsl 0 1 0 (lim r.num.natAbs).length, .rsl 1 1 0 (lim r.den).length]) [⟨.own, T_int, iC (lim r.num.natAbs)⟩, ⟨.own, T_int, iC (lim r.den)⟩]
  refine txg X4j Q5O 0 [] [] [] rfl (by kernel_rfl) ?_
  simp -dsimp(disch:=first|exact om|fail)only[go_sem,simprocAttr,xE,xN,xC,xP,xA,xZ]
  refine callO' (Y8G f hf r.num (by omega)) lL lF ?_
  simp -dsimp(disch:=first|exact om|fail)only[go_sem,simprocAttr,xE,xN,xC,xP,xA,xZ]
  refine callO' (Y5O f hf (lim r.den) (by omega)) lL lF ?_
  simp -dsimp(disch:=first|exact om|fail)only[go_sem,simprocAttr,xE,xN,xC,xP,xA,xZ]
  exact RtG.nothing [some 1, some 2] lE (by decide) lS lE
theorem X9Y (b : Bool) (m : List Int) (k : Int) (hl : m.length ≤ 1048576) (hk : 0 ≤ k ∧ k ≤ 1000000000) :
  GC PP Q5D [.agg [Bo b, .rsl 0 1 0 m.length], I k] [⟨.own, T_int, iC m⟩] (I (k + m.length)) [⟨.own, T_int, iC (marks k m.length)⟩] := by
 refine txg X3K Q4x 1 [] [] [1] rfl (by kernel_rfl) ?_
 simp -dsimp(disch:=first|exact om|fail)only[go_sem,simprocAttr,xE,xN,xC,xP,xA,xZ]
 refine callG' [0] (Q2z T_int m k (by omega) (by omega)) (by decide) lE lE lE lF ?_
 simp -dsimp(disch:=first|exact om|fail)only[go_sem,simprocAttr,xE,xN,xC,xP,xA,xZ]
 exact RtG.nothing [some 0] lE (by decide) lS lE
theorem Y0f {l : List Int} {k : Int} (hk : 0 ≤ k) (h : heldI l k < 0) : -1 = heldI l k := by
 unfold heldI at *
 split at h
 ·omega
 ·rename_i h1; rw [if_neg h1]
theorem Y0g (f : Fl) (hf : f ≠ .u) (b : Bool) (m : List Int) (k : Int) (hl : m.length ≤ 1048576) (hk : 0 ≤ k ∧ k ≤ 1000000000) : PC PP Q5F [.agg (bC f b m), I k] (I (heldI m k)) [] := by
 refine tx X3M Q4z [] (by kernel_rfl) ?_
 simp -dsimp(disch:=first|exact om|fail)only[go_sem,simprocAttr,xE,xN,xC,xP,xA,xZ]
 refine callP (Q8X f hf m k (by omega) (by omega)) lL ?_
 simp -dsimp(disch:=first|exact om|fail)only[go_sem,simprocAttr,xE,xN,xC,xP,xA,xZ]
 exact Y0f hk.1
def markR (r : RD) (k : Int) : RD := ⟨r.neg, marks k r.mag.length, marks (k + r.mag.length) r.den.length⟩
def heldR (r : RD) (k : Int) : Int := if heldI r.mag k < 0 then -1 else heldI r.den (heldI r.mag k)
theorem Y3k {r : RD} {k : Int} (hk : 0 ≤ k) : heldR (markR r k) k = k + r.sz := by
 unfold heldR markR RD.sz
 simp only [X0X]
 rw [if_neg (by omega)]; omega
theorem Y0Z {r : RD} {k : Int} (h : r.small) : (markR r k).small := ⟨by simp [markR]; exact h.1, by simp [markR]; exact h.2⟩
@[go_sem] theorem Z1J {r : RD} {k : Int} : (markR r k).neg = r.neg := (rfl)
theorem Y4O (r : RD) (k : Int) (hl : r.small) (hk : 0 ≤ k ∧ k ≤ 100000000) : GC PP X0H [rO r, I k] (rH r) (I (k + r.sz)) (rH (markR r k)) := by
 obtain ⟨b, m, d⟩ := r
 obtain ⟨h1, h2⟩ := hl
 simp only at h1 h2
 have e : k + (RD.sz ⟨b, m, d⟩ : Nat) = k + m.length + d.length := by unfold RD.sz; simp only; omega
 rw [e]
 refine txg X7n Q7N 2 [] [] [1, 2] rfl (by kernel_rfl) ?_
 simp -dsimp(disch:=first|exact om|fail)only[go_sem,simprocAttr,xE,xN,xC,xP,xA,xZ]
 refine callG' [0] (X9Y b m k (by omega) (by omega)) (by decide) lE lE lE lF ?_
 simp -dsimp(disch:=first|exact om|fail)only[go_sem,simprocAttr,xE,xN,xC,xP,xA,xZ]
 refine callG' [1] (Q2z T_int d (k + m.length) (by omega) (by omega)) (by decide) lE lE lE lF ?_
 simp -dsimp(disch:=first|exact om|fail)only[go_sem,simprocAttr,xE,xN,xC,xP,xA,xZ]
 unfold markR
 exact RtG.nothing [some 0, some 1] lE (by decide) lS lE
theorem Y5h (f : Fl) (hf : f ≠ .u) (r : RD) (k : Int) (hl : r.small) (hk : 0 ≤ k ∧ k ≤ 100000000) : PC PP X0I [rV f r, I k] (I (heldR r k)) [] := by
 obtain ⟨b, m, d⟩ := r
 obtain ⟨h1, h2⟩ := hl
 simp only at h1 h2
 unfold heldR
 have hr := Y5i (l := m) (k := k) (by omega) hk.1
 refine tx X7o Q7O [] (by kernel_rfl) ?_
 simp -dsimp(disch:=first|exact om|fail)only[go_sem,simprocAttr,xE,xN,xC,xP,xA,xZ]
 refine callP (Y0g f hf b m k (by omega) (by omega)) lL ?_
 by_cases h : heldI m k < 0
 ·rw [if_pos h]
  simp -dsimp(disch:=first|exact om|fail)only[go_sem,simprocAttr,xE,xN,xC,xP,xA,xZ]
 ·rw [if_neg h]
  simp -dsimp(disch:=first|exact om|fail)only[go_sem,simprocAttr,xE,xN,xC,xP,xA,xZ]
  refine callP (Q8X f hf d (heldI m k) (by omega) (by omega)) lL ?_
  simp -dsimp(disch:=first|exact om|fail)only[go_sem,simprocAttr,xE,xN,xC,xP,xA,xZ]
  exact Y0f (by omega)
end Go.Proofs.YtchlpclgkhggeaaGreat