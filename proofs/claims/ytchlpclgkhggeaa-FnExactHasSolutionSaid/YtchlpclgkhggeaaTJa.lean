/- part of the proof -/
import Derived.Test.YtchlpclgkhggeaaTIa
namespace Go.Proofs.Ytchlpclgkhggeaa
open Go Go.RowKit
set_option maxRecDepth 100000
set_option maxHeartbeats 1600000
set_option linter.unusedVariables false
set_option linter.unusedSimpArgs false
abbrev zV (f : Fl) (z : Int) : V := .agg (bC f (zb z) (lim z.natAbs))
@[go_sem] theorem rn_toB {H : List Ob} {js : List (Option Nat)} {f : Fl} {sz n : Nat} {cs : List V} (hf : f ≠ .u) : Rn H js true (.sl f sz n cs) (.sl .b sz n cs) [] = True := eq_true (Rn.lent hf)
theorem signed_z (z : Int) (b : Bool) (n : Nat) (e : sgn b n = z) : PC PP F_impl_signed [Bo b, sI .s (lim n)] (zV .s z) [] := by
  subst e
  rw [zV, sgn_natAbs, zb_sgn]
  refine tx W_impl_signed ke_impl_signed [] (by kernel_rfl) ?_
  simp -dsimp(disch:=first|exact om|fail)only[go_sem,↓reduceIte,Nat.reduceEqDiff,Nat.reduceAdd,Nat.reduceSub,Nat.reduceMul,Nat.reduceLT,Nat.reduceLeDiff,reduceCtorEq,a_eq,a_neq,a_cast0,a_pred,a_app1,a_zero,Int.reduceToNat]
  have := @lim_pos_len n
  refine ⟨fun h => ?_, fun h => by rw [h]; rfl⟩
  rw [h, Bool.true_and]
  apply decide_eq_decide.2
  constructor
  · intro h; exact this.2 (by omega)
  · intro h; have := this.1 h; omega
theorem signed_b (z : Int) (b : Bool) (n : Nat) (f : Fl) (hf : f ≠ .u) (e : sgn b n = z) : PB PP F_impl_signed [Bo b, sI f (lim n)] (zV .b z) [] := by
  subst e
  rw [zV, sgn_natAbs, zb_sgn]
  refine txb W_impl_signed ke_impl_signed [] [] [] (by kernel_rfl) ?_
  simp -dsimp(disch:=first|exact om|fail)only[go_sem,↓reduceIte,Nat.reduceEqDiff,Nat.reduceAdd,Nat.reduceSub,Nat.reduceMul,Nat.reduceLT,Nat.reduceLeDiff,reduceCtorEq,a_eq,a_neq,a_cast0,a_pred,a_app1,a_zero,Int.reduceToNat]
  have := @lim_pos_len n
  have e : decide (0 < ((lim n).length : Int)) = decide (0 < n) := by
    apply decide_eq_decide.2
    constructor
    · intro h; exact this.2 (by omega)
    · intro h; have := this.1 h; omega
  rw [e]
  refine ⟨fun h => ?_, fun h => ?_⟩
  · rw [h, Bool.true_and]; exact RtB.nothing [] (by decide) trivial (by simp -dsimp(disch:=first|exact om|fail)only[go_sem,↓reduceIte,Nat.reduceEqDiff,Nat.reduceAdd,Nat.reduceSub,Nat.reduceMul,Nat.reduceLT,Nat.reduceLeDiff,reduceCtorEq,a_eq,a_neq,a_cast0,a_pred,a_app1,a_zero,Int.reduceToNat, rn_toB])
  · rw [h, Bool.false_and]; exact RtB.nothing [] (by decide) trivial (by simp -dsimp(disch:=first|exact om|fail)only[go_sem,↓reduceIte,Nat.reduceEqDiff,Nat.reduceAdd,Nat.reduceSub,Nat.reduceMul,Nat.reduceLT,Nat.reduceLeDiff,reduceCtorEq,a_eq,a_neq,a_cast0,a_pred,a_app1,a_zero,Int.reduceToNat, rn_toB])
theorem opposite_b (z : Int) (f : Fl) (hf : f ≠ .u) : PB PP F_impl_BigInt_opposite [zV f z] (zV .b (-z)) [] := by
  refine txb W_impl_BigInt_opposite ke_impl_BigInt_opposite [] [] [] (by kernel_rfl) ?_
  simp -dsimp(disch:=first|exact om|fail)only[go_sem,↓reduceIte,Nat.reduceEqDiff,Nat.reduceAdd,Nat.reduceSub,Nat.reduceMul,Nat.reduceLT,Nat.reduceLeDiff,reduceCtorEq,a_eq,a_neq,a_cast0,a_pred,a_app1,a_zero,Int.reduceToNat]
  refine callB' (signed_b (-z) (!zb z) z.natAbs f hf (sgn_not z)) lB lF ?_
  simp -dsimp(disch:=first|exact om|fail)only[go_sem,↓reduceIte,Nat.reduceEqDiff,Nat.reduceAdd,Nat.reduceSub,Nat.reduceMul,Nat.reduceLT,Nat.reduceLeDiff,reduceCtorEq,a_eq,a_neq,a_cast0,a_pred,a_app1,a_zero,Int.reduceToNat]
  exact RtB.nothing [] (by decide) trivial (by simp -dsimp(disch:=first|exact om|fail)only[go_sem,↓reduceIte,Nat.reduceEqDiff,Nat.reduceAdd,Nat.reduceSub,Nat.reduceMul,Nat.reduceLT,Nat.reduceLeDiff,reduceCtorEq,a_eq,a_neq,a_cast0,a_pred,a_app1,a_zero,Int.reduceToNat, rn_toB])
theorem impl_BigInt_plus_c (f g : Fl) (hf : f ≠ .u) (hg : g ≠ .u) (x y : Int) (hx : (lim x.natAbs).length ≤ 1000000) (hy : (lim y.natAbs).length ≤ 1000000) : PC PP F_impl_BigInt_plus [zV f x, zV g y] (zV .s (x + y)) [] := by
  refine tx W_impl_BigInt_plus ke_impl_BigInt_plus [] (by kernel_rfl) ?_
  simp -dsimp(disch:=first|exact om|fail)only[go_sem,↓reduceIte,Nat.reduceEqDiff,Nat.reduceAdd,Nat.reduceSub,Nat.reduceMul,Nat.reduceLT,Nat.reduceLeDiff,reduceCtorEq,a_eq,a_neq,a_cast0,a_pred,a_app1,a_zero,Int.reduceToNat]
  refine callP (compare_c f g hf hg x.natAbs y.natAbs (by omega) (by omega)) lL ?_
  by_cases hs : zb x = zb y
  · rw [hs]
    simp -dsimp(disch:=first|exact om|fail)only[go_sem,↓reduceIte,Nat.reduceEqDiff,Nat.reduceAdd,Nat.reduceSub,Nat.reduceMul,Nat.reduceLT,Nat.reduceLeDiff,reduceCtorEq,a_eq,a_neq,a_cast0,a_pred,a_app1,a_zero,Int.reduceToNat, BEq.rfl]
    refine callP (plus_c f g hf hg x.natAbs y.natAbs (by omega) (by omega)) lL ?_
    simp -dsimp(disch:=first|exact om|fail)only[go_sem,↓reduceIte,Nat.reduceEqDiff,Nat.reduceAdd,Nat.reduceSub,Nat.reduceMul,Nat.reduceLT,Nat.reduceLeDiff,reduceCtorEq,a_eq,a_neq,a_cast0,a_pred,a_app1,a_zero,Int.reduceToNat]
    refine callP (signed_z (x + y) (zb y) (x.natAbs + y.natAbs) (by rw [sgn_add, sgn_zb, ← hs, sgn_zb])) lL ?_
    simp -dsimp(disch:=first|exact om|fail)only[go_sem,↓reduceIte,Nat.reduceEqDiff,Nat.reduceAdd,Nat.reduceSub,Nat.reduceMul,Nat.reduceLT,Nat.reduceLeDiff,reduceCtorEq,a_eq,a_neq,a_cast0,a_pred,a_app1,a_zero,Int.reduceToNat]
  · have e : (zb x == zb y) = false := by simpa using hs
    have key : x + y = sgn (zb x) x.natAbs + sgn (!zb x) y.natAbs := by
      have : (!zb x) = zb y := by cases h1 : zb x <;> cases h2 : zb y <;> simp [h1, h2] at hs ⊢
      rw [this, sgn_zb, sgn_zb]
    by_cases hc : y.natAbs ≤ x.natAbs
    · have h1 : 0 ≤ cmpN x.natAbs y.natAbs := cmp_ge.2 hc
      simp -dsimp(disch:=first|exact om|fail)only[go_sem,↓reduceIte,Nat.reduceEqDiff,Nat.reduceAdd,Nat.reduceSub,Nat.reduceMul,Nat.reduceLT,Nat.reduceLeDiff,reduceCtorEq,a_eq,a_neq,a_cast0,a_pred,a_app1,a_zero,Int.reduceToNat, e]
      refine callP (minus_c f g hf hg x.natAbs y.natAbs hc (by omega)) lL ?_
      simp -dsimp(disch:=first|exact om|fail)only[go_sem,↓reduceIte,Nat.reduceEqDiff,Nat.reduceAdd,Nat.reduceSub,Nat.reduceMul,Nat.reduceLT,Nat.reduceLeDiff,reduceCtorEq,a_eq,a_neq,a_cast0,a_pred,a_app1,a_zero,Int.reduceToNat]
      refine callP (signed_z (x + y) (zb x) (x.natAbs - y.natAbs) (by
        rw [key]; unfold sgn; cases zb x <;> simp <;> omega)) lW ?_
      simp -dsimp(disch:=first|exact om|fail)only[go_sem,↓reduceIte,Nat.reduceEqDiff,Nat.reduceAdd,Nat.reduceSub,Nat.reduceMul,Nat.reduceLT,Nat.reduceLeDiff,reduceCtorEq,a_eq,a_neq,a_cast0,a_pred,a_app1,a_zero,Int.reduceToNat]
    · have h1 : ¬ 0 ≤ cmpN x.natAbs y.natAbs := by rw [cmp_lt (by omega)]; decide
      simp -dsimp(disch:=first|exact om|fail)only[go_sem,↓reduceIte,Nat.reduceEqDiff,Nat.reduceAdd,Nat.reduceSub,Nat.reduceMul,Nat.reduceLT,Nat.reduceLeDiff,reduceCtorEq,a_eq,a_neq,a_cast0,a_pred,a_app1,a_zero,Int.reduceToNat, e]
      refine callP (minus_c g f hg hf y.natAbs x.natAbs (by omega) (by omega)) lL ?_
      simp -dsimp(disch:=first|exact om|fail)only[go_sem,↓reduceIte,Nat.reduceEqDiff,Nat.reduceAdd,Nat.reduceSub,Nat.reduceMul,Nat.reduceLT,Nat.reduceLeDiff,reduceCtorEq,a_eq,a_neq,a_cast0,a_pred,a_app1,a_zero,Int.reduceToNat]
      refine callP (signed_z (x + y) (zb y) (y.natAbs - x.natAbs) (by
        have : zb y = !zb x := by cases h1 : zb x <;> cases h2 : zb y <;> simp [h1, h2] at hs ⊢
        rw [key, this]; unfold sgn; cases zb x <;> simp <;> omega)) lW ?_
      simp -dsimp(disch:=first|exact om|fail)only[go_sem,↓reduceIte,Nat.reduceEqDiff,Nat.reduceAdd,Nat.reduceSub,Nat.reduceMul,Nat.reduceLT,Nat.reduceLeDiff,reduceCtorEq,a_eq,a_neq,a_cast0,a_pred,a_app1,a_zero,Int.reduceToNat]
theorem impl_BigInt_minus_c (f g : Fl) (hf : f ≠ .u) (hg : g ≠ .u) (x y : Int) (hx : (lim x.natAbs).length ≤ 1000000) (hy : (lim y.natAbs).length ≤ 1000000) : PC PP F_impl_BigInt_minus [zV f x, zV g y] (zV .s (x - y)) [] := by
  refine tx W_impl_BigInt_minus ke_impl_BigInt_minus [] (by kernel_rfl) ?_
  simp -dsimp(disch:=first|exact om|fail)only[go_sem,↓reduceIte,Nat.reduceEqDiff,Nat.reduceAdd,Nat.reduceSub,Nat.reduceMul,Nat.reduceLT,Nat.reduceLeDiff,reduceCtorEq,a_eq,a_neq,a_cast0,a_pred,a_app1,a_zero,Int.reduceToNat]
  refine callB' (opposite_b y g hg) lB lF ?_
  simp -dsimp(disch:=first|exact om|fail)only[go_sem,↓reduceIte,Nat.reduceEqDiff,Nat.reduceAdd,Nat.reduceSub,Nat.reduceMul,Nat.reduceLT,Nat.reduceLeDiff,reduceCtorEq,a_eq,a_neq,a_cast0,a_pred,a_app1,a_zero,Int.reduceToNat]
  refine callP (impl_BigInt_plus_c f .b hf flb x (-y) hx (by rw [Int.natAbs_neg]; omega)) lL ?_
  simp -dsimp(disch:=first|exact om|fail)only[go_sem,↓reduceIte,Nat.reduceEqDiff,Nat.reduceAdd,Nat.reduceSub,Nat.reduceMul,Nat.reduceLT,Nat.reduceLeDiff,reduceCtorEq,a_eq,a_neq,a_cast0,a_pred,a_app1,a_zero,Int.reduceToNat]
  rw [Int.sub_eq_add_neg]
  simp -dsimp(disch:=first|exact om|fail)only[go_sem,↓reduceIte,Nat.reduceEqDiff,Nat.reduceAdd,Nat.reduceSub,Nat.reduceMul,Nat.reduceLT,Nat.reduceLeDiff,reduceCtorEq,a_eq,a_neq,a_cast0,a_pred,a_app1,a_zero,Int.reduceToNat]
theorem impl_BigInt_times_c (f g : Fl) (hf : f ≠ .u) (hg : g ≠ .u) (x y : Int) (hx : (lim x.natAbs).length ≤ 1000000) (hy : (lim y.natAbs).length ≤ 1000000) : PC PP F_impl_BigInt_times [zV f x, zV g y] (zV .s (x * y)) [] := by
  refine tx W_impl_BigInt_times ke_impl_BigInt_times [] (by kernel_rfl) ?_
  simp -dsimp(disch:=first|exact om|fail)only[go_sem,↓reduceIte,Nat.reduceEqDiff,Nat.reduceAdd,Nat.reduceSub,Nat.reduceMul,Nat.reduceLT,Nat.reduceLeDiff,reduceCtorEq,a_eq,a_neq,a_cast0,a_pred,a_app1,a_zero,Int.reduceToNat]
  refine callP (times_c f g hf hg x.natAbs y.natAbs (by omega) (by omega)) lL ?_
  simp -dsimp(disch:=first|exact om|fail)only[go_sem,↓reduceIte,Nat.reduceEqDiff,Nat.reduceAdd,Nat.reduceSub,Nat.reduceMul,Nat.reduceLT,Nat.reduceLeDiff,reduceCtorEq,a_eq,a_neq,a_cast0,a_pred,a_app1,a_zero,Int.reduceToNat]
  refine callP (signed_z (x * y) (zb x != zb y) (x.natAbs * y.natAbs) (sgn_mul' x y)) lL ?_
  simp -dsimp(disch:=first|exact om|fail)only[go_sem,↓reduceIte,Nat.reduceEqDiff,Nat.reduceAdd,Nat.reduceSub,Nat.reduceMul,Nat.reduceLT,Nat.reduceLeDiff,reduceCtorEq,a_eq,a_neq,a_cast0,a_pred,a_app1,a_zero,Int.reduceToNat]
end Go.Proofs.Ytchlpclgkhggeaa
namespace Go.Proofs.Ytchlpclgkhggeaa
open Go Go.RowKit
set_option maxRecDepth 100000
set_option maxHeartbeats 1600000
set_option linter.unusedVariables false
set_option linter.unusedSimpArgs false
theorem lim_add_le {a b k : Nat} (ha : (lim a).length ≤ k) (hb : (lim b).length ≤ k) : (lim (a + b)).length ≤ k + 1 := by
  rw [lim_length_le] at *
  rw [Int.pow_succ]
  generalize (1000000000 : Int) ^ k = P at *
  omega
end Go.Proofs.Ytchlpclgkhggeaa
namespace Go.Proofs.Ytchlpclgkhggeaa
open Go Go.RowKit
set_option maxRecDepth 100000
set_option maxHeartbeats 1600000
set_option linter.unusedVariables false
set_option linter.unusedSimpArgs false
end Go.Proofs.Ytchlpclgkhggeaa
namespace Go.Proofs.Ytchlpclgkhggeaa
open Go Go.RowKit
set_option maxRecDepth 100000
set_option maxHeartbeats 1600000
set_option linter.unusedVariables false
set_option linter.unusedSimpArgs false
end Go.Proofs.Ytchlpclgkhggeaa

namespace Go.Proofs.Ytchlpclgkhggeaa
open Go Go.RowKit
set_option maxRecDepth 100000
set_option maxHeartbeats 1600000
set_option linter.unusedVariables false
set_option linter.unusedSimpArgs false
@[go_sem] theorem bne_ft : (false != true) = true := (rfl)
@[go_sem] theorem bne_tf : (true != false) = true := (rfl)
@[go_sem] theorem bne_ff : (false != false) = false := (rfl)
@[go_sem] theorem bne_tt : (true != true) = false := (rfl)
def cmpZ (a b : Int) : Int := if a < b then -1 else if a = b then 0 else 1
def sgZ (a : Int) : Int := if a = 0 then 0 else if a < 0 then -1 else 1
theorem cmpZ_pp {x y : Int} (hx : zb x = false) (hy : zb y = false) : cmpZ x y = cmpN x.natAbs y.natAbs := by
  unfold zb at hx hy
  have hx := of_decide_eq_false hx
  have hy := of_decide_eq_false hy
  unfold cmpZ cmpN
  repeat' split
  all_goals omega
theorem cmpZ_nn {x y : Int} (hx : zb x = true) (hy : zb y = true) : cmpZ x y = cmpN y.natAbs x.natAbs := by
  unfold zb at hx hy
  have hx := of_decide_eq_true hx
  have hy := of_decide_eq_true hy
  unfold cmpZ cmpN
  repeat' split
  all_goals omega
theorem cmpZ_np {x y : Int} (hx : zb x = true) (hy : zb y = false) : cmpZ x y = -1 := by
  unfold zb at hx hy
  have hx := of_decide_eq_true hx
  have hy := of_decide_eq_false hy
  unfold cmpZ
  rw [if_pos (by omega)]
theorem cmpZ_pn {x y : Int} (hx : zb x = false) (hy : zb y = true) : cmpZ x y = 1 := by
  unfold zb at hx hy
  have hx := of_decide_eq_false hx
  have hy := of_decide_eq_true hy
  unfold cmpZ
  rw [if_neg (by omega), if_neg (by omega)]
theorem impl_BigInt_compare_c (f g : Fl) (hf : f ≠ .u) (hg : g ≠ .u) (x y : Int) (hx : (lim x.natAbs).length ≤ 1000000) (hy : (lim y.natAbs).length ≤ 1000000) : PC PP F_impl_BigInt_compare [zV f x, zV g y] (I (cmpZ x y)) [] := by
  refine tx W_impl_BigInt_compare ke_impl_BigInt_compare [] (by kernel_rfl) ?_
  cases h1 : zb x <;> cases h2 : zb y
  · rw [cmpZ_pp h1 h2]
    simp -dsimp(disch:=first|exact om|fail)only[go_sem,↓reduceIte,Nat.reduceEqDiff,Nat.reduceAdd,Nat.reduceSub,Nat.reduceMul,Nat.reduceLT,Nat.reduceLeDiff,reduceCtorEq,a_eq,a_neq,a_cast0,a_pred,a_app1,a_zero,Int.reduceToNat, h1, h2]
    refine callP (compare_c f g hf hg x.natAbs y.natAbs (by omega) (by omega)) lL ?_
    simp -dsimp(disch:=first|exact om|fail)only[go_sem,↓reduceIte,Nat.reduceEqDiff,Nat.reduceAdd,Nat.reduceSub,Nat.reduceMul,Nat.reduceLT,Nat.reduceLeDiff,reduceCtorEq,a_eq,a_neq,a_cast0,a_pred,a_app1,a_zero,Int.reduceToNat]
  · rw [cmpZ_pn h1 h2]
    simp -dsimp(disch:=first|exact om|fail)only[go_sem,↓reduceIte,Nat.reduceEqDiff,Nat.reduceAdd,Nat.reduceSub,Nat.reduceMul,Nat.reduceLT,Nat.reduceLeDiff,reduceCtorEq,a_eq,a_neq,a_cast0,a_pred,a_app1,a_zero,Int.reduceToNat, h1, h2]
  · rw [cmpZ_np h1 h2]
    simp -dsimp(disch:=first|exact om|fail)only[go_sem,↓reduceIte,Nat.reduceEqDiff,Nat.reduceAdd,Nat.reduceSub,Nat.reduceMul,Nat.reduceLT,Nat.reduceLeDiff,reduceCtorEq,a_eq,a_neq,a_cast0,a_pred,a_app1,a_zero,Int.reduceToNat, h1, h2]
  · rw [cmpZ_nn h1 h2]
    simp -dsimp(disch:=first|exact om|fail)only[go_sem,↓reduceIte,Nat.reduceEqDiff,Nat.reduceAdd,Nat.reduceSub,Nat.reduceMul,Nat.reduceLT,Nat.reduceLeDiff,reduceCtorEq,a_eq,a_neq,a_cast0,a_pred,a_app1,a_zero,Int.reduceToNat, h1, h2]
    refine callP (compare_c g f hg hf y.natAbs x.natAbs (by omega) (by omega)) lL ?_
    simp -dsimp(disch:=first|exact om|fail)only[go_sem,↓reduceIte,Nat.reduceEqDiff,Nat.reduceAdd,Nat.reduceSub,Nat.reduceMul,Nat.reduceLT,Nat.reduceLeDiff,reduceCtorEq,a_eq,a_neq,a_cast0,a_pred,a_app1,a_zero,Int.reduceToNat]
theorem impl_BigInt_sign_c (f : Fl) (hf : f ≠ .u) (x : Int) (hx : (lim x.natAbs).length ≤ 1000000) : PC PP F_impl_BigInt_sign [zV f x] (I (sgZ x)) [] := by
  refine tx W_impl_BigInt_sign ke_impl_BigInt_sign [] (by kernel_rfl) ?_
  by_cases h0 : x = 0
  · subst h0
    rw [show sgZ 0 = 0 from rfl]
    have l0 : lim (Int.natAbs 0) = [] := lim_zero
    simp -dsimp(disch:=first|exact om|fail)only[go_sem,↓reduceIte,Nat.reduceEqDiff,Nat.reduceAdd,Nat.reduceSub,Nat.reduceMul,Nat.reduceLT,Nat.reduceLeDiff,reduceCtorEq,a_eq,a_neq,a_cast0,a_pred,a_app1,a_zero,Int.reduceToNat, l0]
  · have hl := lim_pos_len.1 (show 0 < x.natAbs by omega)
    by_cases h1 : x < 0
    · have e : zb x = true := decide_eq_true h1
      rw [show sgZ x = -1 by unfold sgZ; rw [if_neg h0, if_pos h1]]
      simp -dsimp(disch:=first|exact om|fail)only[go_sem,↓reduceIte,Nat.reduceEqDiff,Nat.reduceAdd,Nat.reduceSub,Nat.reduceMul,Nat.reduceLT,Nat.reduceLeDiff,reduceCtorEq,a_eq,a_neq,a_cast0,a_pred,a_app1,a_zero,Int.reduceToNat, e]
    · have e : zb x = false := decide_eq_false h1
      rw [show sgZ x = 1 by unfold sgZ; rw [if_neg h0, if_neg h1]]
      simp -dsimp(disch:=first|exact om|fail)only[go_sem,↓reduceIte,Nat.reduceEqDiff,Nat.reduceAdd,Nat.reduceSub,Nat.reduceMul,Nat.reduceLT,Nat.reduceLeDiff,reduceCtorEq,a_eq,a_neq,a_cast0,a_pred,a_app1,a_zero,Int.reduceToNat, e]
theorem lim_le3 {n : Nat} (hn : n ≤ 18446744073709551615) : (lim n).length ≤ 3 := lim_length_le.2 (by
  have : (1000000000 : Int) ^ 3 = 1000000000000000000000000000 := by decide
  omega)
theorem ofInt_some {n : Int} (hn : n.natAbs ≤ 18446744073709551615) : (FQ.ofInt n).1 = some (n : Rat) := by
  unfold FQ.ofInt FQ.fit
  have h1 := lim_le3 hn
  have e1 : (lim (n : Rat).num.natAbs).length ≤ 24 := by rw [Rat.num_intCast]; omega
  have e2 : (lim (n : Rat).den).length ≤ 24 := by rw [Rat.den_intCast, lim_one']; decide
  rw [dif_pos ⟨e1, e2⟩]
theorem ofInt_num {n : Int} (hn : n.natAbs ≤ 18446744073709551615) : (FQ.ofInt n).num = n := by
  unfold FQ.num; rw [ofInt_some hn]; exact Rat.num_intCast n
theorem ofInt_den {n : Int} (hn : n.natAbs ≤ 18446744073709551615) : (FQ.ofInt n).den = 1 := by
  unfold FQ.den; rw [ofInt_some hn]; exact Rat.den_intCast n
theorem qd_ofInt {n : Int} (hn : n.natAbs ≤ 18446744073709551615) : qd (FQ.ofInt n) = ⟨zb n, lim n.natAbs, lim 1⟩ := by
  unfold qd
  rw [ofInt_num hn, ofInt_den hn]
theorem impl_integer_c (n : Int) (hn : -9223372036854775807 ≤ n ∧ n ≤ 9223372036854775807) : PC PP F_impl_integer [I n] (zV .s n) [] := by
  refine tx W_impl_integer ke_impl_integer [] (by kernel_rfl) ?_
  by_cases h : n < 0
  · have e : ((n.natAbs : Nat) : Int) = -(n + 1) + 1 := by omega
    have q := limbsOf_c n.natAbs (by omega)
    rw [e] at q
    simp -dsimp(disch:=first|exact om|fail)only[go_sem,↓reduceIte,Nat.reduceEqDiff,Nat.reduceAdd,Nat.reduceSub,Nat.reduceMul,Nat.reduceLT,Nat.reduceLeDiff,reduceCtorEq,a_eq,a_neq,a_cast0,a_pred,a_app1,a_zero,Int.reduceToNat]
    refine ⟨_, rfl, ?_⟩
    simp -dsimp(disch:=first|exact om|fail)only[go_sem,↓reduceIte,Nat.reduceEqDiff,Nat.reduceAdd,Nat.reduceSub,Nat.reduceMul,Nat.reduceLT,Nat.reduceLeDiff,reduceCtorEq,a_eq,a_neq,a_cast0,a_pred,a_app1,a_zero,Int.reduceToNat]
    refine callP q lL ?_
    simp -dsimp(disch:=first|exact om|fail)only[go_sem,↓reduceIte,Nat.reduceEqDiff,Nat.reduceAdd,Nat.reduceSub,Nat.reduceMul,Nat.reduceLT,Nat.reduceLeDiff,reduceCtorEq,a_eq,a_neq,a_cast0,a_pred,a_app1,a_zero,Int.reduceToNat]
    refine callP (signed_z n true n.natAbs (by unfold sgn; simp; omega)) lL ?_
    simp -dsimp(disch:=first|exact om|fail)only[go_sem,↓reduceIte,Nat.reduceEqDiff,Nat.reduceAdd,Nat.reduceSub,Nat.reduceMul,Nat.reduceLT,Nat.reduceLeDiff,reduceCtorEq,a_eq,a_neq,a_cast0,a_pred,a_app1,a_zero,Int.reduceToNat]
  · have e : ((n.natAbs : Nat) : Int) = n := by omega
    have q := limbsOf_c n.natAbs (by omega)
    rw [e] at q
    simp -dsimp(disch:=first|exact om|fail)only[go_sem,↓reduceIte,Nat.reduceEqDiff,Nat.reduceAdd,Nat.reduceSub,Nat.reduceMul,Nat.reduceLT,Nat.reduceLeDiff,reduceCtorEq,a_eq,a_neq,a_cast0,a_pred,a_app1,a_zero,Int.reduceToNat]
    refine ⟨_, rfl, ?_⟩
    simp -dsimp(disch:=first|exact om|fail)only[go_sem,↓reduceIte,Nat.reduceEqDiff,Nat.reduceAdd,Nat.reduceSub,Nat.reduceMul,Nat.reduceLT,Nat.reduceLeDiff,reduceCtorEq,a_eq,a_neq,a_cast0,a_pred,a_app1,a_zero,Int.reduceToNat]
    refine callP q lL ?_
    simp -dsimp(disch:=first|exact om|fail)only[go_sem,↓reduceIte,Nat.reduceEqDiff,Nat.reduceAdd,Nat.reduceSub,Nat.reduceMul,Nat.reduceLT,Nat.reduceLeDiff,reduceCtorEq,a_eq,a_neq,a_cast0,a_pred,a_app1,a_zero,Int.reduceToNat]
    refine callP (signed_z n false n.natAbs (by unfold sgn; simp; omega)) lL ?_
    simp -dsimp(disch:=first|exact om|fail)only[go_sem,↓reduceIte,Nat.reduceEqDiff,Nat.reduceAdd,Nat.reduceSub,Nat.reduceMul,Nat.reduceLT,Nat.reduceLeDiff,reduceCtorEq,a_eq,a_neq,a_cast0,a_pred,a_app1,a_zero,Int.reduceToNat]
theorem spec_BigIntOf_c (n : Int) (hn : -9223372036854775807 ≤ n ∧ n ≤ 9223372036854775807) : PC PP F_spec_BigIntOf [I n] (.agg (bC .s (zb n) (lim n.natAbs))) [] := by
  have hl := lim_le3 (show n.natAbs ≤ 18446744073709551615 by omega)
  refine tx W_spec_BigIntOf ke_spec_BigIntOf [] (by kernel_rfl) ?_
  by_cases h : n < 0
  · have q := NatOf_c n.natAbs (by omega)
    rw [show ((n.natAbs : Nat) : Int) = -n by omega] at q
    simp -dsimp(disch:=first|exact om|fail)only[go_sem,↓reduceIte,Nat.reduceEqDiff,Nat.reduceAdd,Nat.reduceSub,Nat.reduceMul,Nat.reduceLT,Nat.reduceLeDiff,reduceCtorEq,a_eq,a_neq,a_cast0,a_pred,a_app1,a_zero,Int.reduceToNat]
    refine callP q lL ?_
    simp -dsimp(disch:=first|exact om|fail)only[go_sem,↓reduceIte,Nat.reduceEqDiff,Nat.reduceAdd,Nat.reduceSub,Nat.reduceMul,Nat.reduceLT,Nat.reduceLeDiff,reduceCtorEq,a_eq,a_neq,a_cast0,a_pred,a_app1,a_zero,Int.reduceToNat]
    refine callP (l03Make_z n true n.natAbs .s fls (by unfold sgn; simp; omega) (by omega)) lL ?_
    simp -dsimp(disch:=first|exact om|fail)only[go_sem,↓reduceIte,Nat.reduceEqDiff,Nat.reduceAdd,Nat.reduceSub,Nat.reduceMul,Nat.reduceLT,Nat.reduceLeDiff,reduceCtorEq,a_eq,a_neq,a_cast0,a_pred,a_app1,a_zero,Int.reduceToNat]
  · have q := NatOf_c n.natAbs (by omega)
    rw [show ((n.natAbs : Nat) : Int) = n by omega] at q
    simp -dsimp(disch:=first|exact om|fail)only[go_sem,↓reduceIte,Nat.reduceEqDiff,Nat.reduceAdd,Nat.reduceSub,Nat.reduceMul,Nat.reduceLT,Nat.reduceLeDiff,reduceCtorEq,a_eq,a_neq,a_cast0,a_pred,a_app1,a_zero,Int.reduceToNat]
    refine callP q lL ?_
    simp -dsimp(disch:=first|exact om|fail)only[go_sem,↓reduceIte,Nat.reduceEqDiff,Nat.reduceAdd,Nat.reduceSub,Nat.reduceMul,Nat.reduceLT,Nat.reduceLeDiff,reduceCtorEq,a_eq,a_neq,a_cast0,a_pred,a_app1,a_zero,Int.reduceToNat]
    refine callP (l03Make_z n false n.natAbs .s fls (by unfold sgn; simp; omega) (by omega)) lL ?_
    simp -dsimp(disch:=first|exact om|fail)only[go_sem,↓reduceIte,Nat.reduceEqDiff,Nat.reduceAdd,Nat.reduceSub,Nat.reduceMul,Nat.reduceLT,Nat.reduceLeDiff,reduceCtorEq,a_eq,a_neq,a_cast0,a_pred,a_app1,a_zero,Int.reduceToNat]
theorem spec_RatFromInt_c (n : Int) (hn : -9223372036854775807 ≤ n ∧ n ≤ 9223372036854775807) : PC PP F_spec_RatFromInt [I n] (rV .s (qd (FQ.ofInt n))) [] := by
  rw [qd_ofInt (by omega)]
  refine tx W_spec_RatFromInt ke_spec_RatFromInt [] (by kernel_rfl) ?_
  simp -dsimp(disch:=first|exact om|fail)only[go_sem,↓reduceIte,Nat.reduceEqDiff,Nat.reduceAdd,Nat.reduceSub,Nat.reduceMul,Nat.reduceLT,Nat.reduceLeDiff,reduceCtorEq,a_eq,a_neq,a_cast0,a_pred,a_app1,a_zero,Int.reduceToNat]
  refine callP (spec_BigIntOf_c n hn) lL ?_
  simp -dsimp(disch:=first|exact om|fail)only[go_sem,↓reduceIte,Nat.reduceEqDiff,Nat.reduceAdd,Nat.reduceSub,Nat.reduceMul,Nat.reduceLT,Nat.reduceLeDiff,reduceCtorEq,a_eq,a_neq,a_cast0,a_pred,a_app1,a_zero,Int.reduceToNat, sV_one]
theorem spec_RatSign_c (f : Fl) (hf : f ≠ .u) (r : RD) (hr : r.small) : PC PP F_spec_RatSign [rV f r] (I (sgZ (rdq r).num)) [] := by
  refine tx W_spec_RatSign ke_spec_RatSign [] (by kernel_rfl) ?_
  simp -dsimp(disch:=first|exact om|fail)only[go_sem,↓reduceIte,Nat.reduceEqDiff,Nat.reduceAdd,Nat.reduceSub,Nat.reduceMul,Nat.reduceLT,Nat.reduceLeDiff,reduceCtorEq,a_eq,a_neq,a_cast0,a_pred,a_app1,a_zero,Int.reduceToNat]
  refine callP (spec_RatOk_c f hf r hr) lL ?_
  cases h1 : r.ok
  · rw [rdq_bad h1, show sgZ FQ.bad.num = 0 from rfl]
    simp -dsimp(disch:=first|exact om|fail)only[go_sem,↓reduceIte,Nat.reduceEqDiff,Nat.reduceAdd,Nat.reduceSub,Nat.reduceMul,Nat.reduceLT,Nat.reduceLeDiff,reduceCtorEq,a_eq,a_neq,a_cast0,a_pred,a_app1,a_zero,Int.reduceToNat]
  · obtain ⟨x, rfl, _⟩ := ok_qd h1
    rw [rdq_qd]
    by_cases h0 : x.num = 0
    · have l0 : lim x.num.natAbs = [] := by rw [h0]; exact lim_zero
      rw [show sgZ x.num = 0 by rw [h0]; rfl]
      simp -dsimp(disch:=first|exact om|fail)only[go_sem,↓reduceIte,Nat.reduceEqDiff,Nat.reduceAdd,Nat.reduceSub,Nat.reduceMul,Nat.reduceLT,Nat.reduceLeDiff,reduceCtorEq,a_eq,a_neq,a_cast0,a_pred,a_app1,a_zero,Int.reduceToNat, show (qd x).mag = lim x.num.natAbs from rfl, l0]
    · have hl := lim_pos_len.1 (show 0 < x.num.natAbs by omega)
      by_cases h2 : x.num < 0
      · have e : zb x.num = true := decide_eq_true h2
        rw [show sgZ x.num = -1 by unfold sgZ; rw [if_neg h0, if_pos h2]]
        simp -dsimp(disch:=first|exact om|fail)only[go_sem,↓reduceIte,Nat.reduceEqDiff,Nat.reduceAdd,Nat.reduceSub,Nat.reduceMul,Nat.reduceLT,Nat.reduceLeDiff,reduceCtorEq,a_eq,a_neq,a_cast0,a_pred,a_app1,a_zero,Int.reduceToNat, show (qd x).mag = lim x.num.natAbs from rfl, show (qd x).neg = zb x.num from rfl, e]
      · have e : zb x.num = false := decide_eq_false h2
        rw [show sgZ x.num = 1 by unfold sgZ; rw [if_neg h0, if_neg h2]]
        simp -dsimp(disch:=first|exact om|fail)only[go_sem,↓reduceIte,Nat.reduceEqDiff,Nat.reduceAdd,Nat.reduceSub,Nat.reduceMul,Nat.reduceLT,Nat.reduceLeDiff,reduceCtorEq,a_eq,a_neq,a_cast0,a_pred,a_app1,a_zero,Int.reduceToNat, show (qd x).mag = lim x.num.natAbs from rfl, show (qd x).neg = zb x.num from rfl, e]
theorem l03Cmp_c (f g : Fl) (hf : f ≠ .u) (hg : g ≠ .u) (x y : Int) (hx : (lim x.natAbs).length ≤ 1000000) (hy : (lim y.natAbs).length ≤ 1000000) : PC PP F_spec_l03Cmp [zV f x, zV g y] (I (cmpZ x y)) [] := by
  refine tx W_spec_l03Cmp ke_spec_l03Cmp [] (by kernel_rfl) ?_
  cases h1 : zb x <;> cases h2 : zb y
  · rw [cmpZ_pp h1 h2]
    simp -dsimp(disch:=first|exact om|fail)only[go_sem,↓reduceIte,Nat.reduceEqDiff,Nat.reduceAdd,Nat.reduceSub,Nat.reduceMul,Nat.reduceLT,Nat.reduceLeDiff,reduceCtorEq,a_eq,a_neq,a_cast0,a_pred,a_app1,a_zero,Int.reduceToNat, h1, h2]
    refine callP (l02Cmp_c f g hf hg x.natAbs y.natAbs (by omega) (by omega)) lL ?_
    simp -dsimp(disch:=first|exact om|fail)only[go_sem,↓reduceIte,Nat.reduceEqDiff,Nat.reduceAdd,Nat.reduceSub,Nat.reduceMul,Nat.reduceLT,Nat.reduceLeDiff,reduceCtorEq,a_eq,a_neq,a_cast0,a_pred,a_app1,a_zero,Int.reduceToNat]
  · rw [cmpZ_pn h1 h2]
    simp -dsimp(disch:=first|exact om|fail)only[go_sem,↓reduceIte,Nat.reduceEqDiff,Nat.reduceAdd,Nat.reduceSub,Nat.reduceMul,Nat.reduceLT,Nat.reduceLeDiff,reduceCtorEq,a_eq,a_neq,a_cast0,a_pred,a_app1,a_zero,Int.reduceToNat, h1, h2]
  · rw [cmpZ_np h1 h2]
    simp -dsimp(disch:=first|exact om|fail)only[go_sem,↓reduceIte,Nat.reduceEqDiff,Nat.reduceAdd,Nat.reduceSub,Nat.reduceMul,Nat.reduceLT,Nat.reduceLeDiff,reduceCtorEq,a_eq,a_neq,a_cast0,a_pred,a_app1,a_zero,Int.reduceToNat, h1, h2]
  · rw [cmpZ_nn h1 h2]
    simp -dsimp(disch:=first|exact om|fail)only[go_sem,↓reduceIte,Nat.reduceEqDiff,Nat.reduceAdd,Nat.reduceSub,Nat.reduceMul,Nat.reduceLT,Nat.reduceLeDiff,reduceCtorEq,a_eq,a_neq,a_cast0,a_pred,a_app1,a_zero,Int.reduceToNat, h1, h2]
    refine callP (l02Cmp_c g f hg hf y.natAbs x.natAbs (by omega) (by omega)) lL ?_
    simp -dsimp(disch:=first|exact om|fail)only[go_sem,↓reduceIte,Nat.reduceEqDiff,Nat.reduceAdd,Nat.reduceSub,Nat.reduceMul,Nat.reduceLT,Nat.reduceLeDiff,reduceCtorEq,a_eq,a_neq,a_cast0,a_pred,a_app1,a_zero,Int.reduceToNat]
def FQ.cmp (x y : FQ) : Int := cmpZ (x.num * y.den) (y.num * x.den)
theorem l04Cmp_c (f g : Fl) (hf : f ≠ .u) (hg : g ≠ .u) (x y : FQ) : PC PP F_spec_l04Cmp [rV f (qd x), rV g (qd y)] (I (x.cmp y)) [] := by
  refine tx W_spec_l04Cmp ke_spec_l04Cmp [] (by kernel_rfl) ?_
  have h1 := x.num_le
  have h2 := x.den_le
  have h3 := y.num_le
  have h4 := y.den_le
  have e1 : ∀ z, qd z = ⟨zb z.num, lim z.num.natAbs, lim z.den⟩ := fun _ => rfl
  rw [e1 x, e1 y]
  have m1 := mul_len h1 h4
  have m2 := mul_len h3 h2
  simp -dsimp(disch:=first|exact om|fail)only[go_sem,↓reduceIte,Nat.reduceEqDiff,Nat.reduceAdd,Nat.reduceSub,Nat.reduceMul,Nat.reduceLT,Nat.reduceLeDiff,reduceCtorEq,a_eq,a_neq,a_cast0,a_pred,a_app1,a_zero,Int.reduceToNat]
  refine callP (l02Mul_c f g hf hg x.num.natAbs y.den (by omega) (by omega)) lL ?_
  simp -dsimp(disch:=first|exact om|fail)only[go_sem,↓reduceIte,Nat.reduceEqDiff,Nat.reduceAdd,Nat.reduceSub,Nat.reduceMul,Nat.reduceLT,Nat.reduceLeDiff,reduceCtorEq,a_eq,a_neq,a_cast0,a_pred,a_app1,a_zero,Int.reduceToNat]
  refine callP (l03Make_z (x.num * y.den) (zb x.num) (x.num.natAbs * y.den) .s fls (by rw [sgn_mulN, sgn_zb]) (by omega)) lL ?_
  simp -dsimp(disch:=first|exact om|fail)only[go_sem,↓reduceIte,Nat.reduceEqDiff,Nat.reduceAdd,Nat.reduceSub,Nat.reduceMul,Nat.reduceLT,Nat.reduceLeDiff,reduceCtorEq,a_eq,a_neq,a_cast0,a_pred,a_app1,a_zero,Int.reduceToNat]
  refine callP (l02Mul_c g f hg hf y.num.natAbs x.den (by omega) (by omega)) lL ?_
  simp -dsimp(disch:=first|exact om|fail)only[go_sem,↓reduceIte,Nat.reduceEqDiff,Nat.reduceAdd,Nat.reduceSub,Nat.reduceMul,Nat.reduceLT,Nat.reduceLeDiff,reduceCtorEq,a_eq,a_neq,a_cast0,a_pred,a_app1,a_zero,Int.reduceToNat]
  refine callP (l03Make_z (y.num * x.den) (zb y.num) (y.num.natAbs * x.den) .s fls (by rw [sgn_mulN, sgn_zb]) (by omega)) lL ?_
  simp -dsimp(disch:=first|exact om|fail)only[go_sem,↓reduceIte,Nat.reduceEqDiff,Nat.reduceAdd,Nat.reduceSub,Nat.reduceMul,Nat.reduceLT,Nat.reduceLeDiff,reduceCtorEq,a_eq,a_neq,a_cast0,a_pred,a_app1,a_zero,Int.reduceToNat]
  refine callP (l03Cmp_c .s .s fls fls (x.num * y.den) (y.num * x.den) (by rw [← mul_abs]; omega) (by rw [← mul_abs]; omega)) lL ?_
  simp -dsimp(disch:=first|exact om|fail)only[go_sem,↓reduceIte,Nat.reduceEqDiff,Nat.reduceAdd,Nat.reduceSub,Nat.reduceMul,Nat.reduceLT,Nat.reduceLeDiff,reduceCtorEq,a_eq,a_neq,a_cast0,a_pred,a_app1,a_zero,Int.reduceToNat]
  rfl
end Go.Proofs.Ytchlpclgkhggeaa

namespace Go.Proofs.Ytchlpclgkhggeaa
open Go Go.RowKit
set_option maxRecDepth 100000
set_option maxHeartbeats 1600000
set_option linter.unusedVariables false
set_option linter.unusedSimpArgs false
theorem qd_small (x : FQ) : (qd x).small := ⟨by have := x.num_le; show (lim x.num.natAbs).length ≤ _; omega, by have := x.den_le; show (lim x.den).length ≤ _; omega⟩
@[go_sem] theorem rs_take' {f : Fl} {l : List RD} {i : Nat} (h : OM (i < l.length)) : ((rsC f l).drop (i * 3)).take 3 = rdC f (l.getD i RD.zero) := by
  have h : i < l.length := h
  rw [rs_take h]
  simp [h]
theorem rs_app {f : Fl} {l : List RD} {r : RD} : rsC f l ++ [Bo r.neg, sI f r.mag, sI f r.den] = rsC f (l ++ [r]) := by
  rw [rsC_append]; rfl
theorem getD_map_qd {l : List FQ} {i : Nat} (h : OM (i < l.length)) : (l.map qd).getD i RD.zero = qd (l.getD i FQ.bad) := by
  have h : i < l.length := h
  simp [h]
attribute [go_sem] List.length_map List.length_set getD_map_qd
theorem smallL.getD {l : List RD} (h : smallL l) {i : Nat} (hi : i < l.length) : (l.getD i RD.zero).small := by
  rw [List.getD_eq_getElem?_getD, List.getElem?_eq_getElem hi, Option.getD_some]
  exact h.2 _ (List.getElem_mem hi)
end Go.Proofs.Ytchlpclgkhggeaa
namespace Go.Proofs.Ytchlpclgkhggeaa
open Go Go.RowKit
set_option maxRecDepth 100000
set_option maxHeartbeats 1600000
set_option linter.unusedVariables false
set_option linter.unusedSimpArgs false
@[go_sem] theorem rnL_rsS {H : List Ob} {js : List (Option Nat)} {bk : Bool} {l : List RD} : RnL H js bk (rsC .s l) (rsC .s l) [] = True := eq_true (rnL_rsC (by simp))
end Go.Proofs.Ytchlpclgkhggeaa
namespace Go.Proofs.Ytchlpclgkhggeaa
open Go Go.RowKit
set_option maxRecDepth 100000
set_option maxHeartbeats 1600000
set_option linter.unusedVariables false
set_option linter.unusedSimpArgs false
structure MD where
  rows : Int
  cols : Int
  cells : List RD
deriving DecidableEq
end Go.Proofs.Ytchlpclgkhggeaa
