/- part of the proof -/
import Derived.Test.YtgkimfncegbeaaaGreatTXa
import Derived.Test.YtgkimfncegbeaaaGreatTJa
namespace Go.Proofs.YtgkimfncegbeaaaGreat
open Go Go.RowKit
set_option maxRecDepth 100000
set_option maxHeartbeats 4000000
set_option linter.unusedVariables false
set_option linter.unusedSimpArgs false
theorem good_some {x : FQ} (h : x.good = true) : ∃ r, x.1 = some r := by
  unfold FQ.good at h
  cases e : x.1 with
  | none => rw [e] at h; cases h
  | some r => exact ⟨r, rfl⟩
theorem fit_zero : (FQ.fit 0).1 = some 0 := ofInt_some (n := 0) (by decide)
theorem num_of {x : FQ} {r : Rat} (h : x.1 = some r) : x.num = r.num := by unfold FQ.num; rw [h]
theorem fq_mul0 {x y : FQ} (hx : x.good = true) (hy : y.good = true) (h : x.num = 0 ∨ y.num = 0) : (x.mul y).1 = some 0 := by
  obtain ⟨r, hr⟩ := good_some hx
  obtain ⟨q, hq⟩ := good_some hy
  rw [num_of hr, num_of hq] at h
  unfold FQ.mul lift2
  rw [hr, hq]
  have : r * q = 0 := by
    rcases h with h | h
    · rw [Rat.num_eq_zero.1 h, Rat.zero_mul]
    · rw [Rat.num_eq_zero.1 h, Rat.mul_zero]
  show (FQ.fit (r * q)).1 = some 0
  rw [this]; exact fit_zero
theorem l05Sub_c (f g : Fl) (hf : f ≠ .u) (hg : g ≠ .u) (x y : FQ) : PC PP F_spec_l05Sub [rV f (qd x), rV g (qd y)] (rV .s (qd (x.sub y))) [] := by
  refine tx W_spec_l05Sub ke_spec_l05Sub [] (by kernel_rfl) ?_
  simp -dsimp(disch:=first|exact om|fail)only[go_sem,↓reduceIte,Nat.reduceEqDiff,Nat.reduceAdd,Nat.reduceSub,Nat.reduceMul,Nat.reduceLT,Nat.reduceLeDiff,reduceCtorEq,a_eq,a_neq,a_cast0,a_pred,a_app1,a_zero,Int.reduceToNat]
  refine callP (l04Neg_c g hg y) lL ?_
  simp -dsimp(disch:=first|exact om|fail)only[go_sem,↓reduceIte,Nat.reduceEqDiff,Nat.reduceAdd,Nat.reduceSub,Nat.reduceMul,Nat.reduceLT,Nat.reduceLeDiff,reduceCtorEq,a_eq,a_neq,a_cast0,a_pred,a_app1,a_zero,Int.reduceToNat]
  refine callP (l04Add_c f .s hf fls x y.neg) lL ?_
  rw [sub_neg]
  simp -dsimp(disch:=first|exact om|fail)only[go_sem,↓reduceIte,Nat.reduceEqDiff,Nat.reduceAdd,Nat.reduceSub,Nat.reduceMul,Nat.reduceLT,Nat.reduceLeDiff,reduceCtorEq,a_eq,a_neq,a_cast0,a_pred,a_app1,a_zero,Int.reduceToNat]
theorem l05Nil_c (f : Fl) (hf : f ≠ .u) (x : FQ) : PC PP F_spec_l05Nil [rV f (qd x)] (Bo (decide (x.num = 0))) [] := by
  refine tx W_spec_l05Nil ke_spec_l05Nil [] (by kernel_rfl) ?_
  simp -dsimp(disch:=first|exact om|fail)only[go_sem,↓reduceIte,Nat.reduceEqDiff,Nat.reduceAdd,Nat.reduceSub,Nat.reduceMul,Nat.reduceLT,Nat.reduceLeDiff,reduceCtorEq,a_eq,a_neq,a_cast0,a_pred,a_app1,a_zero,Int.reduceToNat]
  apply decide_eq_decide.2
  show ((lim x.num.natAbs).length : Int) = 0 ↔ _
  constructor
  · intro h
    have h0 : (lim x.num.natAbs).length = 0 := by omega
    have := lim_nil.1 (List.eq_nil_of_length_eq_zero h0); omega
  · intro h
    rw [h]; show ((lim 0).length : Int) = 0; rw [lim_zero]; rfl
end Go.Proofs.YtgkimfncegbeaaaGreat
