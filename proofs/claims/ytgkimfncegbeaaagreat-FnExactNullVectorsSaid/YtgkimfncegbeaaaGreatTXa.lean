/- part of the proof -/
import Derived.Test.YtgkimfncegbeaaaGreatTIb
namespace Go.Proofs.YtgkimfncegbeaaaGreat
open Go Go.RowKit
set_option maxRecDepth 100000
set_option maxHeartbeats 1600000
set_option linter.unusedVariables false
set_option linter.unusedSimpArgs false
def sgZ (a : Int) : Int := if a = 0 then 0 else if a < 0 then -1 else 1
theorem impl_BigInt_sign_c (f : Fl) (hf : f ≠ .u) (x : Int) (hx : (lim x.natAbs).length ≤ 1000000) : PC PP F_impl_BigInt_sign [zV f x] (I (sgZ x)) [] := by
  refine tx W_impl_BigInt_sign ke_impl_BigInt_sign [] (by kernel_rfl) ?_
  by_cases h0 : x = 0
  · subst h0
    rw [show sgZ 0 = 0 from rfl]
    have l0 : lim (Int.natAbs 0) = [] := lim_zero
    simp -dsimp(disch:=first|exact om|fail)only[go_sem,↓reduceIte,Nat.reduceEqDiff,Nat.reduceAdd,Nat.reduceSub,Nat.reduceMul,Nat.reduceLT,Nat.reduceLeDiff,reduceCtorEq,a_eq,a_neq,a_cast0,a_pred,a_app1,a_zero,Int.reduceToNat, l0]
  · have hl := lim_pos_len.1 (show 0 < x.natAbs by omega)
    by_cases h1 : x < 0
    · have e : zb x = true := decide_eq_true h1
      rw [show sgZ x = -1 by unfold sgZ; rw [if_neg h0, if_pos h1]]
      simp -dsimp(disch:=first|exact om|fail)only[go_sem,↓reduceIte,Nat.reduceEqDiff,Nat.reduceAdd,Nat.reduceSub,Nat.reduceMul,Nat.reduceLT,Nat.reduceLeDiff,reduceCtorEq,a_eq,a_neq,a_cast0,a_pred,a_app1,a_zero,Int.reduceToNat, e]
    · have e : zb x = false := decide_eq_false h1
      rw [show sgZ x = 1 by unfold sgZ; rw [if_neg h0, if_neg h1]]
      simp -dsimp(disch:=first|exact om|fail)only[go_sem,↓reduceIte,Nat.reduceEqDiff,Nat.reduceAdd,Nat.reduceSub,Nat.reduceMul,Nat.reduceLT,Nat.reduceLeDiff,reduceCtorEq,a_eq,a_neq,a_cast0,a_pred,a_app1,a_zero,Int.reduceToNat, e]
theorem impl_ratio_Sign_c (f : Fl) (hf : f ≠ .u) (r : Rat) (h1 : (lim r.num.natAbs).length ≤ 1000) : PC PP F_impl_ratio_Sign [pR f r] (I (sgZ r.num)) [] := by
  refine tx W_impl_ratio_Sign ke_impl_ratio_Sign [] (by kernel_rfl) ?_
  simp -dsimp(disch:=first|exact om|fail)only[go_sem,↓reduceIte,Nat.reduceEqDiff,Nat.reduceAdd,Nat.reduceSub,Nat.reduceMul,Nat.reduceLT,Nat.reduceLeDiff,reduceCtorEq,a_eq,a_neq,a_cast0,a_pred,a_app1,a_zero,Int.reduceToNat]
  refine callP (impl_BigInt_sign_c f hf r.num (by omega)) lL ?_
  simp -dsimp(disch:=first|exact om|fail)only[go_sem,↓reduceIte,Nat.reduceEqDiff,Nat.reduceAdd,Nat.reduceSub,Nat.reduceMul,Nat.reduceLT,Nat.reduceLeDiff,reduceCtorEq,a_eq,a_neq,a_cast0,a_pred,a_app1,a_zero,Int.reduceToNat]
theorem lim_le3 {n : Nat} (hn : n ≤ 18446744073709551615) : (lim n).length ≤ 3 := lim_length_le.2 (by
  have : (1000000000 : Int) ^ 3 = 1000000000000000000000000000 := by decide
  omega)
theorem ofInt_some {n : Int} (hn : n.natAbs ≤ 18446744073709551615) : (FQ.ofInt n).1 = some (n : Rat) := by
  unfold FQ.ofInt FQ.fit
  have h1 := lim_le3 hn
  have e1 : (lim (n : Rat).num.natAbs).length ≤ 24 := by rw [Rat.num_intCast]; omega
  have e2 : (lim (n : Rat).den).length ≤ 24 := by rw [Rat.den_intCast, lim_one']; decide
  rw [dif_pos ⟨e1, e2⟩]
theorem ofInt_num {n : Int} (hn : n.natAbs ≤ 18446744073709551615) : (FQ.ofInt n).num = n := by
  unfold FQ.num; rw [ofInt_some hn]; exact Rat.num_intCast n
theorem ofInt_den {n : Int} (hn : n.natAbs ≤ 18446744073709551615) : (FQ.ofInt n).den = 1 := by
  unfold FQ.den; rw [ofInt_some hn]; exact Rat.den_intCast n
theorem pQ_ofInt {f : Fl} {n : Int} (hn : n.natAbs ≤ 18446744073709551615) : pQ f (FQ.ofInt n) = .ptr f [Bo (zb n), sI f (lim n.natAbs), sI f (lim 1)] := by
  unfold pQ
  rw [ofInt_some hn]
  show V.ptr f [Bo (zb (n : Rat).num), sI f (lim (n : Rat).num.natAbs), sI f (lim (n : Rat).den)] = _
  rw [Rat.num_intCast, Rat.den_intCast]
theorem qd_ofInt {n : Int} (hn : n.natAbs ≤ 18446744073709551615) : qd (FQ.ofInt n) = ⟨zb n, lim n.natAbs, lim 1⟩ := by
  unfold qd
  rw [ofInt_num hn, ofInt_den hn]
theorem ofInt_good {n : Int} (hn : n.natAbs ≤ 18446744073709551615) : (FQ.ofInt n).good = true := by
  unfold FQ.good; rw [ofInt_some hn]; rfl
theorem impl_integer_c (n : Int) (hn : -9223372036854775807 ≤ n ∧ n ≤ 9223372036854775807) : PC PP F_impl_integer [I n] (zV .s n) [] := by
  refine tx W_impl_integer ke_impl_integer [] (by kernel_rfl) ?_
  by_cases h : n < 0
  · have e : ((n.natAbs : Nat) : Int) = -(n + 1) + 1 := by omega
    have q := limbsOf_c n.natAbs (by omega)
    rw [e] at q
    simp -dsimp(disch:=first|exact om|fail)only[go_sem,↓reduceIte,Nat.reduceEqDiff,Nat.reduceAdd,Nat.reduceSub,Nat.reduceMul,Nat.reduceLT,Nat.reduceLeDiff,reduceCtorEq,a_eq,a_neq,a_cast0,a_pred,a_app1,a_zero,Int.reduceToNat]
    refine ⟨_, rfl, ?_⟩
    simp -dsimp(disch:=first|exact om|fail)only[go_sem,↓reduceIte,Nat.reduceEqDiff,Nat.reduceAdd,Nat.reduceSub,Nat.reduceMul,Nat.reduceLT,Nat.reduceLeDiff,reduceCtorEq,a_eq,a_neq,a_cast0,a_pred,a_app1,a_zero,Int.reduceToNat]
    refine callP q lL ?_
    simp -dsimp(disch:=first|exact om|fail)only[go_sem,↓reduceIte,Nat.reduceEqDiff,Nat.reduceAdd,Nat.reduceSub,Nat.reduceMul,Nat.reduceLT,Nat.reduceLeDiff,reduceCtorEq,a_eq,a_neq,a_cast0,a_pred,a_app1,a_zero,Int.reduceToNat]
    refine callP (signed_z n true n.natAbs (by unfold sgn; simp; omega)) lL ?_
    simp -dsimp(disch:=first|exact om|fail)only[go_sem,↓reduceIte,Nat.reduceEqDiff,Nat.reduceAdd,Nat.reduceSub,Nat.reduceMul,Nat.reduceLT,Nat.reduceLeDiff,reduceCtorEq,a_eq,a_neq,a_cast0,a_pred,a_app1,a_zero,Int.reduceToNat]
  · have e : ((n.natAbs : Nat) : Int) = n := by omega
    have q := limbsOf_c n.natAbs (by omega)
    rw [e] at q
    simp -dsimp(disch:=first|exact om|fail)only[go_sem,↓reduceIte,Nat.reduceEqDiff,Nat.reduceAdd,Nat.reduceSub,Nat.reduceMul,Nat.reduceLT,Nat.reduceLeDiff,reduceCtorEq,a_eq,a_neq,a_cast0,a_pred,a_app1,a_zero,Int.reduceToNat]
    refine ⟨_, rfl, ?_⟩
    simp -dsimp(disch:=first|exact om|fail)only[go_sem,↓reduceIte,Nat.reduceEqDiff,Nat.reduceAdd,Nat.reduceSub,Nat.reduceMul,Nat.reduceLT,Nat.reduceLeDiff,reduceCtorEq,a_eq,a_neq,a_cast0,a_pred,a_app1,a_zero,Int.reduceToNat]
    refine callP q lL ?_
    simp -dsimp(disch:=first|exact om|fail)only[go_sem,↓reduceIte,Nat.reduceEqDiff,Nat.reduceAdd,Nat.reduceSub,Nat.reduceMul,Nat.reduceLT,Nat.reduceLeDiff,reduceCtorEq,a_eq,a_neq,a_cast0,a_pred,a_app1,a_zero,Int.reduceToNat]
    refine callP (signed_z n false n.natAbs (by unfold sgn; simp; omega)) lL ?_
    simp -dsimp(disch:=first|exact om|fail)only[go_sem,↓reduceIte,Nat.reduceEqDiff,Nat.reduceAdd,Nat.reduceSub,Nat.reduceMul,Nat.reduceLT,Nat.reduceLeDiff,reduceCtorEq,a_eq,a_neq,a_cast0,a_pred,a_app1,a_zero,Int.reduceToNat]
theorem whole_c (n : Int) (hn : -9223372036854775807 ≤ n ∧ n ≤ 9223372036854775807) : PC PP F_impl_whole [I n] (pQ .s (FQ.ofInt n)) [] := by
  rw [pQ_ofInt (by omega)]
  refine tx W_impl_whole ke_impl_whole [] (by kernel_rfl) ?_
  simp -dsimp(disch:=first|exact om|fail)only[go_sem,↓reduceIte,Nat.reduceEqDiff,Nat.reduceAdd,Nat.reduceSub,Nat.reduceMul,Nat.reduceLT,Nat.reduceLeDiff,reduceCtorEq,a_eq,a_neq,a_cast0,a_pred,a_app1,a_zero,Int.reduceToNat]
  refine callP (impl_integer_c n hn) lL ?_
  simp -dsimp(disch:=first|exact om|fail)only[go_sem,↓reduceIte,Nat.reduceEqDiff,Nat.reduceAdd,Nat.reduceSub,Nat.reduceMul,Nat.reduceLT,Nat.reduceLeDiff,reduceCtorEq,a_eq,a_neq,a_cast0,a_pred,a_app1,a_zero,Int.reduceToNat, sV_one]
theorem spec_BigIntOf_c (n : Int) (hn : -9223372036854775807 ≤ n ∧ n ≤ 9223372036854775807) : PC PP F_spec_BigIntOf [I n] (.agg (bC .s (zb n) (lim n.natAbs))) [] := by
  have hl := lim_le3 (show n.natAbs ≤ 18446744073709551615 by omega)
  refine tx W_spec_BigIntOf ke_spec_BigIntOf [] (by kernel_rfl) ?_
  by_cases h : n < 0
  · have q := NatOf_c n.natAbs (by omega)
    rw [show ((n.natAbs : Nat) : Int) = -n by omega] at q
    simp -dsimp(disch:=first|exact om|fail)only[go_sem,↓reduceIte,Nat.reduceEqDiff,Nat.reduceAdd,Nat.reduceSub,Nat.reduceMul,Nat.reduceLT,Nat.reduceLeDiff,reduceCtorEq,a_eq,a_neq,a_cast0,a_pred,a_app1,a_zero,Int.reduceToNat]
    refine callP q lL ?_
    simp -dsimp(disch:=first|exact om|fail)only[go_sem,↓reduceIte,Nat.reduceEqDiff,Nat.reduceAdd,Nat.reduceSub,Nat.reduceMul,Nat.reduceLT,Nat.reduceLeDiff,reduceCtorEq,a_eq,a_neq,a_cast0,a_pred,a_app1,a_zero,Int.reduceToNat]
    refine callP (l03Make_z n true n.natAbs .s fls (by unfold sgn; simp; omega) (by omega)) lL ?_
    simp -dsimp(disch:=first|exact om|fail)only[go_sem,↓reduceIte,Nat.reduceEqDiff,Nat.reduceAdd,Nat.reduceSub,Nat.reduceMul,Nat.reduceLT,Nat.reduceLeDiff,reduceCtorEq,a_eq,a_neq,a_cast0,a_pred,a_app1,a_zero,Int.reduceToNat]
  · have q := NatOf_c n.natAbs (by omega)
    rw [show ((n.natAbs : Nat) : Int) = n by omega] at q
    simp -dsimp(disch:=first|exact om|fail)only[go_sem,↓reduceIte,Nat.reduceEqDiff,Nat.reduceAdd,Nat.reduceSub,Nat.reduceMul,Nat.reduceLT,Nat.reduceLeDiff,reduceCtorEq,a_eq,a_neq,a_cast0,a_pred,a_app1,a_zero,Int.reduceToNat]
    refine callP q lL ?_
    simp -dsimp(disch:=first|exact om|fail)only[go_sem,↓reduceIte,Nat.reduceEqDiff,Nat.reduceAdd,Nat.reduceSub,Nat.reduceMul,Nat.reduceLT,Nat.reduceLeDiff,reduceCtorEq,a_eq,a_neq,a_cast0,a_pred,a_app1,a_zero,Int.reduceToNat]
    refine callP (l03Make_z n false n.natAbs .s fls (by unfold sgn; simp; omega) (by omega)) lL ?_
    simp -dsimp(disch:=first|exact om|fail)only[go_sem,↓reduceIte,Nat.reduceEqDiff,Nat.reduceAdd,Nat.reduceSub,Nat.reduceMul,Nat.reduceLT,Nat.reduceLeDiff,reduceCtorEq,a_eq,a_neq,a_cast0,a_pred,a_app1,a_zero,Int.reduceToNat]
theorem spec_RatFromInt_c (n : Int) (hn : -9223372036854775807 ≤ n ∧ n ≤ 9223372036854775807) : PC PP F_spec_RatFromInt [I n] (rV .s (qd (FQ.ofInt n))) [] := by
  rw [qd_ofInt (by omega)]
  refine tx W_spec_RatFromInt ke_spec_RatFromInt [] (by kernel_rfl) ?_
  simp -dsimp(disch:=first|exact om|fail)only[go_sem,↓reduceIte,Nat.reduceEqDiff,Nat.reduceAdd,Nat.reduceSub,Nat.reduceMul,Nat.reduceLT,Nat.reduceLeDiff,reduceCtorEq,a_eq,a_neq,a_cast0,a_pred,a_app1,a_zero,Int.reduceToNat]
  refine callP (spec_BigIntOf_c n hn) lL ?_
  simp -dsimp(disch:=first|exact om|fail)only[go_sem,↓reduceIte,Nat.reduceEqDiff,Nat.reduceAdd,Nat.reduceSub,Nat.reduceMul,Nat.reduceLT,Nat.reduceLeDiff,reduceCtorEq,a_eq,a_neq,a_cast0,a_pred,a_app1,a_zero,Int.reduceToNat, sV_one]
theorem l05Zero_c : PC PP F_spec_l05Zero [] (rV .s (qd (FQ.ofInt 0))) [] := by
  refine tx W_spec_l05Zero ke_spec_l05Zero [] (by kernel_rfl) ?_
  simp -dsimp(disch:=first|exact om|fail)only[go_sem,↓reduceIte,Nat.reduceEqDiff,Nat.reduceAdd,Nat.reduceSub,Nat.reduceMul,Nat.reduceLT,Nat.reduceLeDiff,reduceCtorEq,a_eq,a_neq,a_cast0,a_pred,a_app1,a_zero,Int.reduceToNat]
  refine callP (spec_RatFromInt_c 0 (by omega)) lL ?_
  simp -dsimp(disch:=first|exact om|fail)only[go_sem,↓reduceIte,Nat.reduceEqDiff,Nat.reduceAdd,Nat.reduceSub,Nat.reduceMul,Nat.reduceLT,Nat.reduceLeDiff,reduceCtorEq,a_eq,a_neq,a_cast0,a_pred,a_app1,a_zero,Int.reduceToNat]
end Go.Proofs.YtgkimfncegbeaaaGreat
