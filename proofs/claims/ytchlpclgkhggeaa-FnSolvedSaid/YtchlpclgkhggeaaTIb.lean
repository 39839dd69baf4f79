/- part of the proof -/
import Derived.Test.YtchlpclgkhggeaaTIa
namespace Go.Proofs.Ytchlpclgkhggeaa
open Go Go.RowKit
set_option maxRecDepth 100000
set_option maxHeartbeats 1600000
set_option linter.unusedVariables false
set_option linter.unusedSimpArgs false
abbrev zV (f : Fl) (z : Int) : V := .agg (bC f (zb z) (lim z.natAbs))
def rtC (f : Fl) (r : Rat) : List V := [Bo (zb r.num), sI f (lim r.num.natAbs), sI f (lim r.den)]
@[go_sem] theorem rtC_eq {f : Fl} {r : Rat} : rtC f r = [Bo (zb r.num), sI f (lim r.num.natAbs), sI f (lim r.den)] := (rfl)
abbrev pR (f : Fl) (r : Rat) : V := .ptr f (rtC f r)
def pQ (f : Fl) (x : FQ) : V := match x.1 with
 | none => .lit (.pointer none)
 | some r => pR f r
theorem pQ_bad {f : Fl} : pQ f FQ.bad = .lit (.pointer none) := rfl
theorem pQ_cases (f : Fl) (x : FQ) : pQ f x = .lit (.pointer none) ∨ ∃ r, pQ f x = pR f r := by
 unfold pQ; split
 ·exact .inl rfl
 ·exact .inr ⟨_, rfl⟩
@[go_sem] theorem sh_pQ {n : Nat} {f : Fl} {x : FQ} : V.sh n (pQ f x) = pQ f x := by
 rcases pQ_cases f x with h | ⟨r, h⟩ <;> rw [h] <;> rfl
@[go_sem] theorem cells_pQ {f : Fl} {x : FQ} : V.cells (pQ f x) = some [pQ f x] := by
 rcases pQ_cases f x with h | ⟨r, h⟩ <;> rw [h] <;> rfl
@[go_sem] theorem cell_pQ {f : Fl} {x : FQ} : V.cell (pQ f x) = True := by
 rcases pQ_cases f x with h | ⟨r, h⟩ <;> rw [h] <;> rfl
@[go_sem] theorem flat_pQ {f : Fl} {x : FQ} : V.flat (pQ f x) = True := by
 rcases pQ_cases f x with h | ⟨r, h⟩ <;> rw [h] <;> rfl
@[go_sem] theorem nu_pQ {f : Fl} {x : FQ} (hf : f ≠ .u) : V.nu (pQ f x) = True := by
 rcases pQ_cases f x with h | ⟨r, h⟩ <;> rw [h]
 ·rfl
 ·cases f
  ·rfl
  ·rfl
  ·exact absurd rfl hf
@[go_sem] theorem rn_toB {H : List Ob} {js : List (Option Nat)} {f : Fl} {sz n : Nat} {cs : List V} (hf : f ≠ .u) : Rn H js true (.sl f sz n cs) (.sl .b sz n cs) [] = True := eq_true (Rn.lent hf)
theorem cmp_eq {a b : Nat} : cmpN a b = 0 ↔ a = b := by
 unfold cmpN
 split
 ·omega
 ·split <;> omega
theorem signed_z (z : Int) (b : Bool) (n : Nat) (e : sgn b n = z) : PC PP F_impl_signed [Bo b, sI .s (lim n)] (zV .s z) [] := by
 subst e
 rw [zV, sgn_natAbs, zb_sgn]
 refine tx W_impl_signed ke_impl_signed [] (by kernel_rfl) ?_
 simp -dsimp(disch:=first|exact om|fail)only[go_sem,simprocAttr,xE,xN,xC,xP,xA,xZ]
 have := @lim_pos_len n
 refine ⟨fun h => ?_, fun h => by rw [h]; rfl⟩
 rw [h, Bool.true_and]
 apply decide_eq_decide.2
 constructor
 ·intro h; exact this.2 (by omega)
 ·intro h; have := this.1 h; omega
theorem signed_b (z : Int) (b : Bool) (n : Nat) (f : Fl) (hf : f ≠ .u) (e : sgn b n = z) : PB PP F_impl_signed [Bo b, sI f (lim n)] (zV .b z) [] := by
 subst e
 rw [zV, sgn_natAbs, zb_sgn]
 refine txb W_impl_signed ke_impl_signed [] [] [] (by kernel_rfl) ?_
 simp -dsimp(disch:=first|exact om|fail)only[go_sem,simprocAttr,xE,xN,xC,xP,xA,xZ]
 have := @lim_pos_len n
 have e : decide (0 < ((lim n).length : Int)) = decide (0 < n) := by
  apply decide_eq_decide.2
  constructor
  ·intro h; exact this.2 (by omega)
  ·intro h; have := this.1 h; omega
 rw [e]
 refine ⟨fun h => ?_, fun h => ?_⟩
 ·rw [h, Bool.true_and]; exact RtB.nothing [] (by decide) trivial (by simp -dsimp(disch:=first|exact om|fail)only[go_sem,simprocAttr,xE,xN,xC,xP,xA,xZ, rn_toB])
 ·rw [h, Bool.false_and]; exact RtB.nothing [] (by decide) trivial (by simp -dsimp(disch:=first|exact om|fail)only[go_sem,simprocAttr,xE,xN,xC,xP,xA,xZ, rn_toB])
theorem opposite_b (z : Int) (f : Fl) (hf : f ≠ .u) : PB PP F_impl_BigInt_opposite [zV f z] (zV .b (-z)) [] := by
 refine txb W_impl_BigInt_opposite ke_impl_BigInt_opposite [] [] [] (by kernel_rfl) ?_
 simp -dsimp(disch:=first|exact om|fail)only[go_sem,simprocAttr,xE,xN,xC,xP,xA,xZ]
 refine callB' (signed_b (-z) (!zb z) z.natAbs f hf (sgn_not z)) lB lF ?_
 simp -dsimp(disch:=first|exact om|fail)only[go_sem,simprocAttr,xE,xN,xC,xP,xA,xZ]
 exact RtB.nothing [] (by decide) trivial (by simp -dsimp(disch:=first|exact om|fail)only[go_sem,simprocAttr,xE,xN,xC,xP,xA,xZ, rn_toB])
theorem impl_BigIntOk_c (f : Fl) (hf : f ≠ .u) (b : Bool) (m : List Int) (hm : m.length ≤ 1048576) : PC PP F_impl_BigIntOk [.agg (bC f b m)] (Bo (bok b m)) [] := by
 refine tx W_impl_BigIntOk ke_impl_BigIntOk [] (by kernel_rfl) ?_
 simp -dsimp(disch:=first|exact om|fail)only[go_sem,simprocAttr,xE,xN,xC,xP,xA,xZ]
 refine callP (impl_NatOk_c f hf m hm) lL ?_
 unfold bok
 cases h1 : okN m
 ·simp -dsimp(disch:=first|exact om|fail)only[go_sem,simprocAttr,xE,xN,xC,xP,xA,xZ]
 ·cases b
  ·simp -dsimp(disch:=first|exact om|fail)only[go_sem,simprocAttr,xE,xN,xC,xP,xA,xZ]
  ·by_cases h2 : m.length = 0
   ·simp -dsimp(disch:=first|exact om|fail)only[go_sem,simprocAttr,xE,xN,xC,xP,xA,xZ, h2]
   ·simp -dsimp(disch:=first|exact om|fail)only[go_sem,simprocAttr,xE,xN,xC,xP,xA,xZ]
    simp [h2]
theorem impl_RatOk_c (f : Fl) (hf : f ≠ .u) (r : RD) (hr : r.small) : PC PP F_impl_RatOk [rV f r] (Bo r.ok) [] := by
 obtain ⟨b, m, d⟩ := r
 obtain ⟨hm, hd⟩ := hr
 simp only at hm hd
 refine tx W_impl_RatOk ke_impl_RatOk [] (by kernel_rfl) ?_
 simp -dsimp(disch:=first|exact om|fail)only[go_sem,simprocAttr,xE,xN,xC,xP,xA,xZ]
 refine callP (impl_BigIntOk_c f hf b m hm) lL ?_
 cases h1 : bok b m
 ·have : RD.ok ⟨b, m, d⟩ = false := by
   show (bok b m && okN d && decide (d.length ≠ 0) && decide (d.length ≤ 24) && decide (m.length ≤ 24) && _) = false
   rw [h1]; simp
  rw [this]
  simp -dsimp(disch:=first|exact om|fail)only[go_sem,simprocAttr,xE,xN,xC,xP,xA,xZ]
 ·simp -dsimp(disch:=first|exact om|fail)only[go_sem,simprocAttr,xE,xN,xC,xP,xA,xZ]
  refine callP (impl_NatOk_c f hf d hd) lL ?_
  cases h2 : okN d
  ·have : RD.ok ⟨b, m, d⟩ = false := by
    show (bok b m && okN d && decide (d.length ≠ 0) && decide (d.length ≤ 24) && decide (m.length ≤ 24) && _) = false
    rw [h2]; simp
   rw [this]
   simp -dsimp(disch:=first|exact om|fail)only[go_sem,simprocAttr,xE,xN,xC,xP,xA,xZ]
  ·obtain ⟨n, e, rfl, rfl, hk⟩ := ok_rest h1 h2
   rw [hk]
   by_cases h3 : (lim e).length = 0
   ·simp -dsimp(disch:=first|exact om|fail)only[go_sem,simprocAttr,xE,xN,xC,xP,xA,xZ, h3]
   ·by_cases h5 : (lim n).length ≤ 24
    ·by_cases h4 : (lim e).length ≤ 24
     ·simp -dsimp(disch:=first|exact om|fail)only[go_sem,simprocAttr,xE,xN,xC,xP,xA,xZ]
      refine callB' (divisor_b f f hf hf n e (by omega) (by omega)) lB lF ?_
      simp -dsimp(disch:=first|exact om|fail)only[go_sem,simprocAttr,xE,xN,xC,xP,xA,xZ]
      rw [sV_one]
      refine callP (compare_c .b .s flb fls (Nat.gcd n e) 1 (by have := lim_gcd_le n e (lim_pos_len.2 (by omega)); omega) (by rw [lim_one']; decide)) lL ?_
      simp -dsimp(disch:=first|exact om|fail)only[go_sem,simprocAttr,xE,xN,xC,xP,xA,xZ]
      simp [h3, h4, h5]
      exact cmp_eq
     ·simp -dsimp(disch:=first|exact om|fail)only[go_sem,simprocAttr,xE,xN,xC,xP,xA,xZ]
      simp [h4]
    ·simp -dsimp(disch:=first|exact om|fail)only[go_sem,simprocAttr,xE,xN,xC,xP,xA,xZ]
     simp [h5]
theorem impl_BigInt_plus_c (f g : Fl) (hf : f ≠ .u) (hg : g ≠ .u) (x y : Int) (hx : (lim x.natAbs).length ≤ 1000000) (hy : (lim y.natAbs).length ≤ 1000000) : PC PP F_impl_BigInt_plus [zV f x, zV g y] (zV .s (x + y)) [] := by
 refine tx W_impl_BigInt_plus ke_impl_BigInt_plus [] (by kernel_rfl) ?_
 simp -dsimp(disch:=first|exact om|fail)only[go_sem,simprocAttr,xE,xN,xC,xP,xA,xZ]
 refine callP (compare_c f g hf hg x.natAbs y.natAbs (by omega) (by omega)) lL ?_
 by_cases hs : zb x = zb y
 ·rw [hs]
  simp -dsimp(disch:=first|exact om|fail)only[go_sem,simprocAttr,xE,xN,xC,xP,xA,xZ, BEq.rfl]
  refine callP (plus_c f g hf hg x.natAbs y.natAbs (by omega) (by omega)) lL ?_
  simp -dsimp(disch:=first|exact om|fail)only[go_sem,simprocAttr,xE,xN,xC,xP,xA,xZ]
  refine callP (signed_z (x + y) (zb y) (x.natAbs + y.natAbs) (by rw [sgn_add, sgn_zb, ← hs, sgn_zb])) lL ?_
  simp -dsimp(disch:=first|exact om|fail)only[go_sem,simprocAttr,xE,xN,xC,xP,xA,xZ]
 ·have e : (zb x == zb y) = false := by simpa using hs
  have key : x + y = sgn (zb x) x.natAbs + sgn (!zb x) y.natAbs := by
   have : (!zb x) = zb y := by cases h1 : zb x <;> cases h2 : zb y <;> simp [h1, h2] at hs ⊢
   rw [this, sgn_zb, sgn_zb]
  by_cases hc : y.natAbs ≤ x.natAbs
  ·have h1 : 0 ≤ cmpN x.natAbs y.natAbs := cmp_ge.2 hc
   simp -dsimp(disch:=first|exact om|fail)only[go_sem,simprocAttr,xE,xN,xC,xP,xA,xZ, e]
   refine callP (minus_c f g hf hg x.natAbs y.natAbs hc (by omega)) lL ?_
   simp -dsimp(disch:=first|exact om|fail)only[go_sem,simprocAttr,xE,xN,xC,xP,xA,xZ]
   refine callP (signed_z (x + y) (zb x) (x.natAbs - y.natAbs) (by
    rw [key]; unfold sgn; cases zb x <;> simp <;> omega)) lW ?_
   simp -dsimp(disch:=first|exact om|fail)only[go_sem,simprocAttr,xE,xN,xC,xP,xA,xZ]
  ·have h1 : ¬ 0 ≤ cmpN x.natAbs y.natAbs := by rw [cmp_lt (by omega)]; decide
   simp -dsimp(disch:=first|exact om|fail)only[go_sem,simprocAttr,xE,xN,xC,xP,xA,xZ, e]
   refine callP (minus_c g f hg hf y.natAbs x.natAbs (by omega) (by omega)) lL ?_
   simp -dsimp(disch:=first|exact om|fail)only[go_sem,simprocAttr,xE,xN,xC,xP,xA,xZ]
   refine callP (signed_z (x + y) (zb y) (y.natAbs - x.natAbs) (by
    have : zb y = !zb x := by cases h1 : zb x <;> cases h2 : zb y <;> simp [h1, h2] at hs ⊢
    rw [key, this]; unfold sgn; cases zb x <;> simp <;> omega)) lW ?_
   simp -dsimp(disch:=first|exact om|fail)only[go_sem,simprocAttr,xE,xN,xC,xP,xA,xZ]
theorem impl_BigInt_minus_c (f g : Fl) (hf : f ≠ .u) (hg : g ≠ .u) (x y : Int) (hx : (lim x.natAbs).length ≤ 1000000) (hy : (lim y.natAbs).length ≤ 1000000) : PC PP F_impl_BigInt_minus [zV f x, zV g y] (zV .s (x - y)) [] := by
 refine tx W_impl_BigInt_minus ke_impl_BigInt_minus [] (by kernel_rfl) ?_
 simp -dsimp(disch:=first|exact om|fail)only[go_sem,simprocAttr,xE,xN,xC,xP,xA,xZ]
 refine callB' (opposite_b y g hg) lB lF ?_
 simp -dsimp(disch:=first|exact om|fail)only[go_sem,simprocAttr,xE,xN,xC,xP,xA,xZ]
 refine callP (impl_BigInt_plus_c f .b hf flb x (-y) hx (by rw [Int.natAbs_neg]; omega)) lL ?_
 simp -dsimp(disch:=first|exact om|fail)only[go_sem,simprocAttr,xE,xN,xC,xP,xA,xZ]
 rw [Int.sub_eq_add_neg]
 simp -dsimp(disch:=first|exact om|fail)only[go_sem,simprocAttr,xE,xN,xC,xP,xA,xZ]
theorem impl_BigInt_times_c (f g : Fl) (hf : f ≠ .u) (hg : g ≠ .u) (x y : Int) (hx : (lim x.natAbs).length ≤ 1000000) (hy : (lim y.natAbs).length ≤ 1000000) : PC PP F_impl_BigInt_times [zV f x, zV g y] (zV .s (x * y)) [] := by
 refine tx W_impl_BigInt_times ke_impl_BigInt_times [] (by kernel_rfl) ?_
 simp -dsimp(disch:=first|exact om|fail)only[go_sem,simprocAttr,xE,xN,xC,xP,xA,xZ]
 refine callP (times_c f g hf hg x.natAbs y.natAbs (by omega) (by omega)) lL ?_
 simp -dsimp(disch:=first|exact om|fail)only[go_sem,simprocAttr,xE,xN,xC,xP,xA,xZ]
 refine callP (signed_z (x * y) (zb x != zb y) (x.natAbs * y.natAbs) (sgn_mul' x y)) lL ?_
 simp -dsimp(disch:=first|exact om|fail)only[go_sem,simprocAttr,xE,xN,xC,xP,xA,xZ]
theorem scaled_c (f g : Fl) (hf : f ≠ .u) (hg : g ≠ .u) (r : Rat) (n : Nat) (h1 : (lim r.num.natAbs).length ≤ 1000000) (h2 : (lim n).length ≤ 1000000) : PC PP F_impl_ratio_scaled [pR f r, sI g (lim n)] (zV .s (r.num * n)) [] := by
 refine tx W_impl_ratio_scaled ke_impl_ratio_scaled [] (by kernel_rfl) ?_
 simp -dsimp(disch:=first|exact om|fail)only[go_sem,simprocAttr,xE,xN,xC,xP,xA,xZ]
 refine callP (times_c f g hf hg r.num.natAbs n (by omega) (by omega)) lL ?_
 simp -dsimp(disch:=first|exact om|fail)only[go_sem,simprocAttr,xE,xN,xC,xP,xA,xZ]
 refine callP (signed_z (r.num * n) (zb r.num) (r.num.natAbs * n) (by rw [sgn_mulN, sgn_zb])) lL ?_
 simp -dsimp(disch:=first|exact om|fail)only[go_sem,simprocAttr,xE,xN,xC,xP,xA,xZ]
theorem Le.pRb {H : List Ob} {g : Fl} (hg : g ≠ .u) (r : Rat) : Le H .b (pR g r) (pR g r) := by
 cases g with
 | s => exact .ptr _ _ _ _ (.inl rfl) lW
 | b => exact .ptr _ _ _ _ ⟨rfl, rfl⟩ lW
 | u => exact absurd rfl hg
theorem Le.pRs {H : List Ob} {f : Fl} (r : Rat) : Le H f (pR .s r) (pR .s r) := .ptr _ _ _ _ (.inl rfl) lW
@[go_sem] theorem le_pR {H : List Ob} {g : Fl} {r : Rat} (hg : g ≠ .u) : Le H .b (pR g r) (pR g r) = True := eq_true (Le.pRb hg r)
@[go_sem] theorem le_pRs {H : List Ob} {f : Fl} {r : Rat} : Le H f (pR .s r) (pR .s r) = True := eq_true (Le.pRs r)
@[go_sem] theorem le_pQ {H : List Ob} {g : Fl} {x : FQ} (hg : g ≠ .u) : Le H .b (pQ g x) (pQ g x) = True := by
 apply eq_true; unfold pQ; split
 ·exact .lit _
 ·exact Le.pRb hg _
@[go_sem] theorem le_pQs {H : List Ob} {f : Fl} {x : FQ} : Le H f (pQ .s x) (pQ .s x) = True := by
 apply eq_true; unfold pQ; split
 ·exact .lit _
 ·exact Le.pRs _
theorem Le.refR {H : List Ob} {f : Fl} {id off : Nat} {ty : TypeId} {cs : List V} {r : Rat} (h : H[id]? = some ⟨.own, ty, cs⟩) (e : LeL H f (cs.drop off) (rtC f r)) : Le H f (.ref id off) (pR f r) := .ref id off _ _ h (.inl rfl) e
theorem mkRat_low' (z : Int) (d : Nat) (hd : d ≠ 0) : (mkRat z d).num = sgn (zb z) (z.natAbs / Nat.gcd z.natAbs d) ∧ (mkRat z d).den = d / Nat.gcd z.natAbs d := by
 have := mkRat_low (zb z) z.natAbs d hd
 rwa [sgn_zb] at this
theorem lowest_c (z : Int) (d : Nat) (hd : 0 < d) (h1 : (lim z.natAbs).length ≤ 1000000) (h2 : (lim d).length ≤ 1000000) : PC PP F_impl_lowest [zV .s z, sI .s (lim d)] (pR .s (mkRat z d)) [] := by
  refine tx W_impl_lowest ke_impl_lowest [] (by kernel_rfl) ?_
  obtain ⟨e1, e2⟩ := mkRat_low' z d (by omega)
  by_cases h0 : z = 0
  · subst h0
    have e3 : mkRat 0 d = 0 := by rw [Rat.zero_mkRat]
    rw [e3]
    have l0 : lim (Int.natAbs 0) = [] := lim_zero
    simp -dsimp(disch:=first|exact om|fail)only[go_sem,↓reduceIte,Nat.reduceEqDiff,Nat.reduceAdd,Nat.reduceSub,Nat.reduceMul,Nat.reduceLT,Nat.reduceLeDiff,reduceCtorEq,xE,xN,xC,xP,xA,xZ,Int.reduceToNat, l0, sV_one]
    exact Le.refR rfl (by show LeL _ _ _ [Bo (zb 0), sI .s (lim 0), sI .s (lim 1)]; simp -dsimp(disch:=first|exact om|fail)only[go_sem,↓reduceIte,Nat.reduceEqDiff,Nat.reduceAdd,Nat.reduceSub,Nat.reduceMul,Nat.reduceLT,Nat.reduceLeDiff,reduceCtorEq,xE,xN,xC,xP,xA,xZ,Int.reduceToNat, lim_zero]; rfl)
  · have hz : 0 < z.natAbs := by omega
    have hl := lim_pos_len.1 hz
    have hg0 : 0 < Nat.gcd z.natAbs d := Nat.gcd_pos_of_pos_right _ hd
    have hgl := lim_gcd_le z.natAbs d hd
    simp -dsimp(disch:=first|exact om|fail)only[go_sem,↓reduceIte,Nat.reduceEqDiff,Nat.reduceAdd,Nat.reduceSub,Nat.reduceMul,Nat.reduceLT,Nat.reduceLeDiff,reduceCtorEq,xE,xN,xC,xP,xA,xZ,Int.reduceToNat]
    refine callP (divisor_c z.natAbs d (by omega) (by omega)) lL ?_
    simp -dsimp(disch:=first|exact om|fail)only[go_sem,↓reduceIte,Nat.reduceEqDiff,Nat.reduceAdd,Nat.reduceSub,Nat.reduceMul,Nat.reduceLT,Nat.reduceLeDiff,reduceCtorEq,xE,xN,xC,xP,xA,xZ,Int.reduceToNat, sV_one]
    refine callP (compare_c .s .s fls fls (Nat.gcd z.natAbs d) 1 (by omega) (by rw [lim_one']; decide)) lL ?_
    by_cases h3 : Nat.gcd z.natAbs d = 1
    · have h4 : cmpN (Nat.gcd z.natAbs d) 1 = 0 := cmp_eq.2 h3
      rw [h3, Nat.div_one, sgn_zb] at e1
      rw [h3, Nat.div_one] at e2
      simp -dsimp(disch:=first|exact om|fail)only[go_sem,↓reduceIte,Nat.reduceEqDiff,Nat.reduceAdd,Nat.reduceSub,Nat.reduceMul,Nat.reduceLT,Nat.reduceLeDiff,reduceCtorEq,xE,xN,xC,xP,xA,xZ,Int.reduceToNat, h4]
      exact Le.refR rfl (by rw [rtC_eq, e1, e2]; simp -dsimp(disch:=first|exact om|fail)only[go_sem,↓reduceIte,Nat.reduceEqDiff,Nat.reduceAdd,Nat.reduceSub,Nat.reduceMul,Nat.reduceLT,Nat.reduceLeDiff,reduceCtorEq,xE,xN,xC,xP,xA,xZ,Int.reduceToNat])
    · have h4 : ¬ cmpN (Nat.gcd z.natAbs d) 1 = 0 := fun h => h3 (cmp_eq.1 h)
      simp -dsimp(disch:=first|exact om|fail)only[go_sem,↓reduceIte,Nat.reduceEqDiff,Nat.reduceAdd,Nat.reduceSub,Nat.reduceMul,Nat.reduceLT,Nat.reduceLeDiff,reduceCtorEq,xE,xN,xC,xP,xA,xZ,Int.reduceToNat, h4]
      refine callP (over_c .s .s fls fls z.natAbs (Nat.gcd z.natAbs d) hg0 (by omega) (by omega)) lL ?_
      simp -dsimp(disch:=first|exact om|fail)only[go_sem,↓reduceIte,Nat.reduceEqDiff,Nat.reduceAdd,Nat.reduceSub,Nat.reduceMul,Nat.reduceLT,Nat.reduceLeDiff,reduceCtorEq,xE,xN,xC,xP,xA,xZ,Int.reduceToNat]
      refine callP (over_c .s .s fls fls d (Nat.gcd z.natAbs d) hg0 (by omega) (by omega)) lL ?_
      simp -dsimp(disch:=first|exact om|fail)only[go_sem,↓reduceIte,Nat.reduceEqDiff,Nat.reduceAdd,Nat.reduceSub,Nat.reduceMul,Nat.reduceLT,Nat.reduceLeDiff,reduceCtorEq,xE,xN,xC,xP,xA,xZ,Int.reduceToNat]
      refine callP (signed_z (mkRat z d).num (zb z) (z.natAbs / Nat.gcd z.natAbs d) e1.symm) lL ?_
      rw [← e2]
      simp -dsimp(disch:=first|exact om|fail)only[go_sem,↓reduceIte,Nat.reduceEqDiff,Nat.reduceAdd,Nat.reduceSub,Nat.reduceMul,Nat.reduceLT,Nat.reduceLeDiff,reduceCtorEq,xE,xN,xC,xP,xA,xZ,Int.reduceToNat]
theorem lim_add_le {a b k : Nat} (ha : (lim a).length ≤ k) (hb : (lim b).length ≤ k) : (lim (a + b)).length ≤ k + 1 := by
 rw [lim_length_le] at *
 rw [Int.pow_succ]
 generalize (1000000000 : Int) ^ k = P at *
 omega
theorem ratio_plus_c (f g : Fl) (hf : f ≠ .u) (hg : g ≠ .u) (r s : Rat) (h1 : (lim r.num.natAbs).length ≤ 1000) (h2 : (lim r.den).length ≤ 1000) (h3 : (lim s.num.natAbs).length ≤ 1000) (h4 : (lim s.den).length ≤ 1000) : PC PP F_impl_ratio_plus [pR f r, pR g s] (pR .s (r + s)) [] := by
 refine tx W_impl_ratio_plus ke_impl_ratio_plus [] (by kernel_rfl) ?_
 simp -dsimp(disch:=first|exact om|fail)only[go_sem,simprocAttr,xE,xN,xC,xP,xA,xZ]
 refine callP (scaled_c f g hf hg r s.den (by omega) (by omega)) lL ?_
 simp -dsimp(disch:=first|exact om|fail)only[go_sem,simprocAttr,xE,xN,xC,xP,xA,xZ]
 refine callP (scaled_c g f hg hf s r.den (by omega) (by omega)) lL ?_
 simp -dsimp(disch:=first|exact om|fail)only[go_sem,simprocAttr,xE,xN,xC,xP,xA,xZ]
 have m1 := lim_mul_len (a := r.num.natAbs) (d := s.den)
 have m2 := lim_mul_len (a := s.num.natAbs) (d := r.den)
 have m3 := lim_mul_len (a := r.den) (d := s.den)
 rw [mul_abs] at m1 m2
 refine callP (impl_BigInt_plus_c .s .s fls fls (r.num * s.den) (s.num * r.den) (by omega) (by omega)) lL ?_
 simp -dsimp(disch:=first|exact om|fail)only[go_sem,simprocAttr,xE,xN,xC,xP,xA,xZ]
 refine callP (times_c f g hf hg r.den s.den (by omega) (by omega)) lL ?_
 simp -dsimp(disch:=first|exact om|fail)only[go_sem,simprocAttr,xE,xN,xC,xP,xA,xZ]
 have hl : (lim (r.num * s.den + s.num * r.den).natAbs).length ≤ 1000000 := by
  have h5 := lim_length_mono (Int.natAbs_add_le (r.num * s.den) (s.num * r.den))
  have h8 := lim_add_le (a := (r.num * s.den).natAbs) (b := (s.num * r.den).natAbs) (k := 2000) (by omega) (by omega)
  omega
 refine callP (lowest_c (r.num * s.den + s.num * r.den) (r.den * s.den) (Nat.mul_pos r.den_pos s.den_pos) hl (by omega)) lL ?_
 have e : mkRat (r.num * s.den + s.num * r.den) (r.den * s.den) = r + s := by rw [Rat.add_def, Rat.normalize_eq_mkRat]
 rw [e]
 simp -dsimp(disch:=first|exact om|fail)only[go_sem,simprocAttr,xE,xN,xC,xP,xA,xZ]
theorem ratio_minus_c (f g : Fl) (hf : f ≠ .u) (hg : g ≠ .u) (r s : Rat) (h1 : (lim r.num.natAbs).length ≤ 1000) (h2 : (lim r.den).length ≤ 1000) (h3 : (lim s.num.natAbs).length ≤ 1000) (h4 : (lim s.den).length ≤ 1000) : PC PP F_impl_ratio_minus [pR f r, pR g s] (pR .s (r - s)) [] := by
 refine tx W_impl_ratio_minus ke_impl_ratio_minus [] (by kernel_rfl) ?_
 simp -dsimp(disch:=first|exact om|fail)only[go_sem,simprocAttr,xE,xN,xC,xP,xA,xZ]
 refine callP (scaled_c f g hf hg r s.den (by omega) (by omega)) lL ?_
 simp -dsimp(disch:=first|exact om|fail)only[go_sem,simprocAttr,xE,xN,xC,xP,xA,xZ]
 refine callP (scaled_c g f hg hf s r.den (by omega) (by omega)) lL ?_
 simp -dsimp(disch:=first|exact om|fail)only[go_sem,simprocAttr,xE,xN,xC,xP,xA,xZ]
 have m1 := lim_mul_len (a := r.num.natAbs) (d := s.den)
 have m2 := lim_mul_len (a := s.num.natAbs) (d := r.den)
 have m3 := lim_mul_len (a := r.den) (d := s.den)
 rw [mul_abs] at m1 m2
 refine callP (impl_BigInt_minus_c .s .s fls fls (r.num * s.den) (s.num * r.den) (by omega) (by omega)) lL ?_
 simp -dsimp(disch:=first|exact om|fail)only[go_sem,simprocAttr,xE,xN,xC,xP,xA,xZ]
 refine callP (times_c f g hf hg r.den s.den (by omega) (by omega)) lL ?_
 simp -dsimp(disch:=first|exact om|fail)only[go_sem,simprocAttr,xE,xN,xC,xP,xA,xZ]
 have hl : (lim (r.num * s.den - s.num * r.den).natAbs).length ≤ 1000000 := by
  have h5 := lim_length_mono (Int.natAbs_sub_le (r.num * s.den) (s.num * r.den))
  have h8 := lim_add_le (a := (r.num * s.den).natAbs) (b := (s.num * r.den).natAbs) (k := 2000) (by omega) (by omega)
  omega
 refine callP (lowest_c (r.num * s.den - s.num * r.den) (r.den * s.den) (Nat.mul_pos r.den_pos s.den_pos) hl (by omega)) lL ?_
 have e : mkRat (r.num * s.den - s.num * r.den) (r.den * s.den) = r - s := by rw [Rat.sub_def, Rat.normalize_eq_mkRat]
 rw [e]
 simp -dsimp(disch:=first|exact om|fail)only[go_sem,simprocAttr,xE,xN,xC,xP,xA,xZ]
theorem ratio_times_c (f g : Fl) (hf : f ≠ .u) (hg : g ≠ .u) (r s : Rat) (h1 : (lim r.num.natAbs).length ≤ 1000) (h2 : (lim r.den).length ≤ 1000) (h3 : (lim s.num.natAbs).length ≤ 1000) (h4 : (lim s.den).length ≤ 1000) : PC PP F_impl_ratio_times [pR f r, pR g s] (pR .s (r * s)) [] := by
 refine tx W_impl_ratio_times ke_impl_ratio_times [] (by kernel_rfl) ?_
 have m1 := lim_mul_len (a := r.num.natAbs) (d := s.num.natAbs)
 rw [← Int.natAbs_mul] at m1
 have m3 := lim_mul_len (a := r.den) (d := s.den)
 simp -dsimp(disch:=first|exact om|fail)only[go_sem,simprocAttr,xE,xN,xC,xP,xA,xZ]
 refine callP (impl_BigInt_times_c f g hf hg r.num s.num (by omega) (by omega)) lL ?_
 simp -dsimp(disch:=first|exact om|fail)only[go_sem,simprocAttr,xE,xN,xC,xP,xA,xZ]
 refine callP (times_c f g hf hg r.den s.den (by omega) (by omega)) lL ?_
 simp -dsimp(disch:=first|exact om|fail)only[go_sem,simprocAttr,xE,xN,xC,xP,xA,xZ]
 refine callP (lowest_c (r.num * s.num) (r.den * s.den) (Nat.mul_pos r.den_pos s.den_pos) (by omega) (by omega)) lL ?_
 have e : mkRat (r.num * s.num) (r.den * s.den) = r * s := by rw [Rat.mul_def, Rat.normalize_eq_mkRat]
 rw [e]
 simp -dsimp(disch:=first|exact om|fail)only[go_sem,simprocAttr,xE,xN,xC,xP,xA,xZ]
theorem pQ_fit (f : Fl) (r : Rat) : pQ f (FQ.fit r) = if (lim r.num.natAbs).length ≤ 24 ∧ (lim r.den).length ≤ 24 then pR f r else .lit (.pointer none) := by
 unfold FQ.fit
 by_cases h : (lim r.num.natAbs).length ≤ 24 ∧ (lim r.den).length ≤ 24
 ·rw [dif_pos h, if_pos h]; rfl
 ·rw [dif_neg h, if_neg h]; rfl
theorem fit_c (r : Rat) (h1 : (lim r.num.natAbs).length ≤ 1000000) (h2 : (lim r.den).length ≤ 1000000) : PC PP F_impl_fit [pR .s r] (pQ .s (FQ.fit r)) [] := by
 refine tx W_impl_fit ke_impl_fit [] (by kernel_rfl) ?_
 rw [pQ_fit]
 by_cases a : (lim r.num.natAbs).length ≤ 24
 ·by_cases b : (lim r.den).length ≤ 24
  ·rw [if_pos ⟨a, b⟩]; simp -dsimp(disch:=first|exact om|fail)only[go_sem,simprocAttr,xE,xN,xC,xP,xA,xZ]
  ·rw [if_neg (fun h => b h.2)]; simp -dsimp(disch:=first|exact om|fail)only[go_sem,simprocAttr,xE,xN,xC,xP,xA,xZ]
 ·rw [if_neg (fun h => a h.1)]; simp -dsimp(disch:=first|exact om|fail)only[go_sem,simprocAttr,xE,xN,xC,xP,xA,xZ]
theorem rat_len {r s t : Rat} (h1 : (lim r.num.natAbs).length ≤ 24 ∧ (lim r.den).length ≤ 24) (h2 : (lim s.num.natAbs).length ≤ 24 ∧ (lim s.den).length ≤ 24) {z : Int} (e : t = mkRat z (r.den * s.den)) (hz : (lim z.natAbs).length ≤ 60) : (lim t.num.natAbs).length ≤ 1000000 ∧ (lim t.den).length ≤ 1000000 := by
 subst e
 obtain ⟨e1, e2⟩ := mkRat_low' z (r.den * s.den) (Nat.ne_of_gt (Nat.mul_pos r.den_pos s.den_pos))
 rw [e1, e2, sgn_natAbs]
 have m3 := lim_mul_len (a := r.den) (d := s.den)
 have d1 := lim_div_le z.natAbs (Nat.gcd z.natAbs (r.den * s.den))
 have d2 := lim_div_le (r.den * s.den) (Nat.gcd z.natAbs (r.den * s.den))
 omega
theorem add_c (f g : Fl) (hf : f ≠ .u) (hg : g ≠ .u) (x y : FQ) : PC PP F_impl_add [pQ f x, pQ g y] (pQ .s (x.add y)) [] := by
 obtain ⟨x, hx⟩ := x
 obtain ⟨y, hy⟩ := y
 cases x with
 | none =>
  show PC PP F_impl_add [.lit (.pointer none), pQ g ⟨y, hy⟩] (.lit (.pointer none)) []
  refine tx W_impl_add ke_impl_add [] (by kernel_rfl) ?_
  simp -dsimp(disch:=first|exact om|fail)only[go_sem,simprocAttr,xE,xN,xC,xP,xA,xZ]
 | some r =>
  cases y with
  | none =>
   show PC PP F_impl_add [pR f r, .lit (.pointer none)] (.lit (.pointer none)) []
   refine tx W_impl_add ke_impl_add [] (by kernel_rfl) ?_
   simp -dsimp(disch:=first|exact om|fail)only[go_sem,simprocAttr,xE,xN,xC,xP,xA,xZ]
  | some s =>
   show PC PP F_impl_add [pR f r, pR g s] (pQ .s (FQ.fit (r + s))) []
   have h1 := hx r rfl
   have h2 := hy s rfl
   obtain ⟨l1, l2⟩ := rat_len (t := r + s) h1 h2 (z := r.num * s.den + s.num * r.den) (by rw [Rat.add_def, Rat.normalize_eq_mkRat]) (by
    have m1 := lim_mul_len (a := r.num.natAbs) (d := s.den)
    have m2 := lim_mul_len (a := s.num.natAbs) (d := r.den)
    rw [mul_abs] at m1 m2
    have h5 := lim_length_mono (Int.natAbs_add_le (r.num * s.den) (s.num * r.den))
    have h8 := lim_add_le (a := (r.num * s.den).natAbs) (b := (s.num * r.den).natAbs) (k := 50) (by omega) (by omega)
    omega)
   refine tx W_impl_add ke_impl_add [] (by kernel_rfl) ?_
   simp -dsimp(disch:=first|exact om|fail)only[go_sem,simprocAttr,xE,xN,xC,xP,xA,xZ]
   refine callP (ratio_plus_c f g hf hg r s (by omega) (by omega) (by omega) (by omega)) lL ?_
   simp -dsimp(disch:=first|exact om|fail)only[go_sem,simprocAttr,xE,xN,xC,xP,xA,xZ]
   refine callP (fit_c (r + s) l1 l2) lL ?_
   simp -dsimp(disch:=first|exact om|fail)only[go_sem,simprocAttr,xE,xN,xC,xP,xA,xZ]
theorem sub_c (f g : Fl) (hf : f ≠ .u) (hg : g ≠ .u) (x y : FQ) : PC PP F_impl_sub [pQ f x, pQ g y] (pQ .s (x.sub y)) [] := by
 obtain ⟨x, hx⟩ := x
 obtain ⟨y, hy⟩ := y
 cases x with
 | none =>
  show PC PP F_impl_sub [.lit (.pointer none), pQ g ⟨y, hy⟩] (.lit (.pointer none)) []
  refine tx W_impl_sub ke_impl_sub [] (by kernel_rfl) ?_
  simp -dsimp(disch:=first|exact om|fail)only[go_sem,simprocAttr,xE,xN,xC,xP,xA,xZ]
 | some r =>
  cases y with
  | none =>
   show PC PP F_impl_sub [pR f r, .lit (.pointer none)] (.lit (.pointer none)) []
   refine tx W_impl_sub ke_impl_sub [] (by kernel_rfl) ?_
   simp -dsimp(disch:=first|exact om|fail)only[go_sem,simprocAttr,xE,xN,xC,xP,xA,xZ]
  | some s =>
   show PC PP F_impl_sub [pR f r, pR g s] (pQ .s (FQ.fit (r - s))) []
   have h1 := hx r rfl
   have h2 := hy s rfl
   obtain ⟨l1, l2⟩ := rat_len (t := r - s) h1 h2 (z := r.num * s.den - s.num * r.den) (by rw [Rat.sub_def, Rat.normalize_eq_mkRat]) (by
    have m1 := lim_mul_len (a := r.num.natAbs) (d := s.den)
    have m2 := lim_mul_len (a := s.num.natAbs) (d := r.den)
    rw [mul_abs] at m1 m2
    have h5 := lim_length_mono (Int.natAbs_sub_le (r.num * s.den) (s.num * r.den))
    have h8 := lim_add_le (a := (r.num * s.den).natAbs) (b := (s.num * r.den).natAbs) (k := 50) (by omega) (by omega)
    omega)
   refine tx W_impl_sub ke_impl_sub [] (by kernel_rfl) ?_
   simp -dsimp(disch:=first|exact om|fail)only[go_sem,simprocAttr,xE,xN,xC,xP,xA,xZ]
   refine callP (ratio_minus_c f g hf hg r s (by omega) (by omega) (by omega) (by omega)) lL ?_
   simp -dsimp(disch:=first|exact om|fail)only[go_sem,simprocAttr,xE,xN,xC,xP,xA,xZ]
   refine callP (fit_c (r - s) l1 l2) lL ?_
   simp -dsimp(disch:=first|exact om|fail)only[go_sem,simprocAttr,xE,xN,xC,xP,xA,xZ]
theorem mul_c (f g : Fl) (hf : f ≠ .u) (hg : g ≠ .u) (x y : FQ) : PC PP F_impl_mul [pQ f x, pQ g y] (pQ .s (x.mul y)) [] := by
 obtain ⟨x, hx⟩ := x
 obtain ⟨y, hy⟩ := y
 cases x with
 | none =>
  show PC PP F_impl_mul [.lit (.pointer none), pQ g ⟨y, hy⟩] (.lit (.pointer none)) []
  refine tx W_impl_mul ke_impl_mul [] (by kernel_rfl) ?_
  simp -dsimp(disch:=first|exact om|fail)only[go_sem,simprocAttr,xE,xN,xC,xP,xA,xZ]
 | some r =>
  cases y with
  | none =>
   show PC PP F_impl_mul [pR f r, .lit (.pointer none)] (.lit (.pointer none)) []
   refine tx W_impl_mul ke_impl_mul [] (by kernel_rfl) ?_
   simp -dsimp(disch:=first|exact om|fail)only[go_sem,simprocAttr,xE,xN,xC,xP,xA,xZ]
  | some s =>
   show PC PP F_impl_mul [pR f r, pR g s] (pQ .s (FQ.fit (r * s))) []
   have h1 := hx r rfl
   have h2 := hy s rfl
   obtain ⟨l1, l2⟩ := rat_len (t := r * s) h1 h2 (z := r.num * s.num) (by rw [Rat.mul_def, Rat.normalize_eq_mkRat]) (by
    have m1 := lim_mul_len (a := r.num.natAbs) (d := s.num.natAbs)
    rw [← Int.natAbs_mul] at m1
    omega)
   refine tx W_impl_mul ke_impl_mul [] (by kernel_rfl) ?_
   simp -dsimp(disch:=first|exact om|fail)only[go_sem,simprocAttr,xE,xN,xC,xP,xA,xZ]
   refine callP (ratio_times_c f g hf hg r s (by omega) (by omega) (by omega) (by omega)) lL ?_
   simp -dsimp(disch:=first|exact om|fail)only[go_sem,simprocAttr,xE,xN,xC,xP,xA,xZ]
   refine callP (fit_c (r * s) l1 l2) lL ?_
   simp -dsimp(disch:=first|exact om|fail)only[go_sem,simprocAttr,xE,xN,xC,xP,xA,xZ]
theorem load_b (f : Fl) (hf : f ≠ .u) (r : RD) (hr : r.small) : PB PP F_impl_load [rV f r] (pQ .b (rdq r)) [] := by
 refine txb W_impl_load ke_impl_load [] [] [] (by kernel_rfl) ?_
 simp -dsimp(disch:=first|exact om|fail)only[go_sem,simprocAttr,xE,xN,xC,xP,xA,xZ]
 refine callP (impl_RatOk_c f hf r hr) lL ?_
 cases h1 : r.ok
 ·rw [rdq_bad h1, pQ_bad]
  simp -dsimp(disch:=first|exact om|fail)only[go_sem,simprocAttr,xE,xN,xC,xP,xA,xZ]
  exact RtB.nothing [] (by decide) trivial lW
 ·obtain ⟨x, rfl, hx⟩ := ok_qd h1
  rw [rdq_qd]
  obtain ⟨x, hok⟩ := x
  cases x with
  | none => cases hx
  | some q =>
   simp -dsimp(disch:=first|exact om|fail)only[go_sem,simprocAttr,xE,xN,xC,xP,xA,xZ]
   refine RtB.shareb (cs := rtC f q) (cs' := rtC .b q) 1 rfl lW lW lW ?_
   exact RtB.nothing [] (by decide) trivial (of_eq_true (rn_refb lW))
theorem PC.nilO {f : FuncId} {r : V} {objs : List Ob} {fl : Fl} (hf : fl ≠ .u) (h : ∀ (a : Option Addr) (c : Nat), c ≤ maxLen → PC PP f [.lit (.slice a 0 c)] r objs) : PC PP f [.sl fl 1 0 []] r objs := by
 refine ⟨(h none 0 (by decide)).1, fun w S B xs hb hr => ?_⟩
 obtain ⟨x, xs', u1, u2, rfl, e2, e3, e4, e5⟩ := hr
 subst e4
 obtain ⟨a, c, rfl, _, hc, _⟩ := e3
 exact (h a c hc).2 w S B _ hb ⟨_, _, [], [], rfl, rfl, ⟨rfl, rfl, rfl⟩, rfl, rfl⟩
theorem clone_g (f : Fl) (hf : f ≠ .u) (l : List Int) (hl : l.length ≤ 1048576) : GC PP F_slices_Clone_int_int [sI f l] [] (.rsl 0 1 0 l.length) [⟨.own, T_int, iC l⟩] := by
 by_cases h0 : l.length = 0
 ·obtain rfl := List.eq_nil_of_length_eq_zero h0
  refine PC.gc (PC.nilO hf fun a c hc => GC.pc ?_)
  cases a with
  | none =>
   refine txg W_slices_Clone_int_int ke_slices_Clone_int_int 0 [] [] [] rfl (by kernel_rfl) ?_
   simp -dsimp(disch:=first|exact om|fail)only[go_sem,simprocAttr,xE,xN,xC,xP,xA,xZ, Option.isNone_none]
   exact RtG.ren [none] [[]] trivial (by decide) (by simp -dsimp only [go_sem,simprocAttr]; simp [iC]) (by simp -dsimp only [go_sem,simprocAttr])
  | some a =>
   refine txg W_slices_Clone_int_int ke_slices_Clone_int_int 0 [] [3] [] rfl (by kernel_rfl) ?_
   simp -dsimp(disch:=first|exact om|fail)only[go_sem,simprocAttr,xE,xN,xC,xP,xA,xZ, Option.isNone_some]
   refine ⟨⟨[(0, .sl .b 1 0 [])], []⟩, StI.var ?_, ?_⟩
   ·intro t v ht
    by_cases e : t = 0
    ·subst e
     obtain rfl : V.sl .b 1 0 [] = v := Option.some.inj ht
     refine ⟨_, rfl, ?_⟩
     rintro w S B κ x ⟨_, rfl, _⟩
     exact ⟨_, _, rfl, Nat.zero_le _, hc, rfl, .inl ⟨rfl, rfl, by intro h; cases h⟩⟩
    ·have e' : (t == 0) = false := by simpa using e
     simp only [List.lookup, e'] at ht
     cases ht
   ·simp -dsimp(disch:=first|exact om|fail)only[go_sem,simprocAttr,xE,xN,xC,xP,xA,xZ]
    exact RtG.nothing [some 0] trivial (by decide) (by simp -dsimp only [go_sem,simprocAttr]; exact RnL.nil _ _) lW
 ·have : 0 < l.length := by omega
  refine txg W_slices_Clone_int_int ke_slices_Clone_int_int 0 [] [] [] rfl (by kernel_rfl) ?_
  simp -dsimp(disch:=first|exact om|fail)only[go_sem,simprocAttr,xE,xN,xC,xP,xA,xZ]
  exact RtG.nothing [some 0] lE (by decide) lS lE
theorem fewer_g (f : Fl) (hf : f ≠ .u) (z : Int) (hz : (lim z.natAbs).length ≤ 60) : GC PP F_impl_BigInt_fewer [zV f z] [] (.agg [Bo (zb z), .rsl 0 1 0 (lim z.natAbs).length]) [⟨.own, T_int, iC (lim z.natAbs)⟩] := by
 refine txg W_impl_BigInt_fewer ke_impl_BigInt_fewer 0 [] [] [] rfl (by kernel_rfl) ?_
 simp -dsimp(disch:=first|exact om|fail)only[go_sem,simprocAttr,xE,xN,xC,xP,xA,xZ]
 refine callO' (clone_g f hf (lim z.natAbs) (by omega)) lL lF ?_
 simp -dsimp(disch:=first|exact om|fail)only[go_sem,simprocAttr,xE,xN,xC,xP,xA,xZ]
 exact RtG.nothing [some 2] lE (by decide) lS lE
theorem store_g (f : Fl) (hf : f ≠ .u) (x : FQ) : GC PP F_impl_store [pQ f x] [] (rO (qd x)) (rH (qd x)) := by
 obtain ⟨x, hx⟩ := x
 cases x with
 | none =>
  show GC PP F_impl_store [.lit (.pointer none)] [] (rO (qd FQ.bad)) (rH (qd FQ.bad))
  rw [qd_bad]
  refine txg W_impl_store ke_impl_store 0 [] [] [] rfl (by kernel_rfl) ?_
  simp -dsimp(disch:=first|exact om|fail)only[go_sem,simprocAttr,xE,xN,xC,xP,xA,xZ]
  exact RtG.ren [none, none] [[], []] trivial (by decide) (by simp -dsimp only [go_sem,simprocAttr]; simp [iC]) lW
 | some r =>
  have h1 := hx r rfl
  show GC PP F_impl_store [pR f r] [] (.agg [Bo (zb r.num), .rsl 0 1 0 (lim r.num.natAbs).length, .rsl 1 1 0 (lim r.den).length]) [⟨.own, T_int, iC (lim r.num.natAbs)⟩, ⟨.own, T_int, iC (lim r.den)⟩]
  refine txg W_impl_store ke_impl_store 0 [] [] [] rfl (by kernel_rfl) ?_
  simp -dsimp(disch:=first|exact om|fail)only[go_sem,simprocAttr,xE,xN,xC,xP,xA,xZ]
  refine callO' (fewer_g f hf r.num (by omega)) lL lF ?_
  simp -dsimp(disch:=first|exact om|fail)only[go_sem,simprocAttr,xE,xN,xC,xP,xA,xZ]
  refine callO' (clone_g f hf (lim r.den) (by omega)) lL lF ?_
  simp -dsimp(disch:=first|exact om|fail)only[go_sem,simprocAttr,xE,xN,xC,xP,xA,xZ]
  exact RtG.nothing [some 1, some 2] lE (by decide) lS lE
end Go.Proofs.Ytchlpclgkhggeaa