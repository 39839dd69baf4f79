/- The laws of RatAdd and RatSub. -/
import Derived.Test.YtekhgkpnhenecaaIb
import Derived.Test.YtekhgkpnhenecaaGr
namespace Go.Proofs.Ytekhgkpnhenecaa
open Go Go.RowKit
set_option maxRecDepth 100000
set_option maxHeartbeats 1600000
set_option linter.unusedVariables false
set_option linter.unusedSimpArgs false

theorem qd_small (x : FQ) : (qd x).small := ⟨by have := x.num_le; show (lim x.num.natAbs).length ≤ _; omega, by have := x.den_le; show (lim x.den).length ≤ _; omega⟩
theorem qd_sz (x : FQ) : (qd x).sz ≤ 48 := by
  have h1 := x.num_le
  have h2 := x.den_le
  show (lim x.num.natAbs).length + (lim x.den).length ≤ 48
  omega
theorem small_sz {r : RD} (h : r.small) : r.sz ≤ 2097152 := by
  have h1 := h.1
  have h2 := h.2
  unfold RD.sz; omega

theorem FnExactRatAdd_c (f : Fl) (hf : f ≠ .u) (r s : RD) (hr : r.fit) (hs : s.fit) : PC PP F_laws_FnExactRatAdd [rV f r, rV f s] (Bo true) [] := by
  have hz1 := szRat_c f hf r 1048576 hr (by omega)
  have hb1 := szI_rng (n := 1048576) (k := r.sz) (by omega)
  have hz2 := szRat_c f hf s (szI 1048576 r.sz) hs hb1
  have hs1 : 0 ≤ szI 1048576 r.sz → r.small := fun h => RD.small_of (szI_small (by omega) h)
  have hs2 : 0 ≤ szI (szI 1048576 r.sz) s.sz → s.small := fun h => RD.small_of (szI_small hb1.2 h)
  generalize szI 1048576 r.sz = z at *
  generalize szI z s.sz = y at *
  refine txe W_laws_FnExactRatAdd ke_laws_FnExactRatAdd [] [] [19, 20, 24] (by kernel_rfl) ?_
  simp -dsimp (disch := first | assumption | (refine OM.mk ?_; omega) | (simp -dsimp only [go_sem]; done) | fail) only [go_sem, ↓reduceIte, Nat.reduceEqDiff, Nat.reduceAdd, Nat.reduceSub, Nat.reduceMul, Nat.reduceLT, Nat.reduceLeDiff, reduceCtorEq, a_cast0, a_pred, a_app1, a_zero, Int.reduceToNat]
  refine callP hz1 (by simp -dsimp (disch := first | assumption | (simp -dsimp only [go_sem]; done) | fail) only [go_sem]) ?_
  simp -dsimp (disch := first | assumption | (refine OM.mk ?_; omega) | (simp -dsimp only [go_sem]; done) | fail) only [go_sem, ↓reduceIte, Nat.reduceEqDiff, Nat.reduceAdd, Nat.reduceSub, Nat.reduceMul, Nat.reduceLT, Nat.reduceLeDiff, reduceCtorEq, a_cast0, a_pred, a_app1, a_zero, Int.reduceToNat]
  intro g1
  have hs1 := hs1 (by omega)
  refine callP hz2 (by simp -dsimp (disch := first | assumption | (simp -dsimp only [go_sem]; done) | fail) only [go_sem]) ?_
  simp -dsimp (disch := first | assumption | (refine OM.mk ?_; omega) | (simp -dsimp only [go_sem]; done) | fail) only [go_sem, ↓reduceIte, Nat.reduceEqDiff, Nat.reduceAdd, Nat.reduceSub, Nat.reduceMul, Nat.reduceLT, Nat.reduceLeDiff, reduceCtorEq, a_cast0, a_pred, a_app1, a_zero, Int.reduceToNat]
  intro g2
  have hs2 := hs2 (by omega)
  refine callP (toRat_c f hf r hs1) (by simp -dsimp (disch := first | assumption | (simp -dsimp only [go_sem]; done) | fail) only [go_sem]) ?_
  simp -dsimp (disch := first | assumption | (refine OM.mk ?_; omega) | (simp -dsimp only [go_sem]; done) | fail) only [go_sem, ↓reduceIte, Nat.reduceEqDiff, Nat.reduceAdd, Nat.reduceSub, Nat.reduceMul, Nat.reduceLT, Nat.reduceLeDiff, reduceCtorEq, a_cast0, a_pred, a_app1, a_zero, Int.reduceToNat]
  refine callP (toRat_c f hf s hs2) (by simp -dsimp (disch := first | assumption | (simp -dsimp only [go_sem]; done) | fail) only [go_sem]) ?_
  simp -dsimp (disch := first | assumption | (refine OM.mk ?_; omega) | (simp -dsimp only [go_sem]; done) | fail) only [go_sem, ↓reduceIte, Nat.reduceEqDiff, Nat.reduceAdd, Nat.reduceSub, Nat.reduceMul, Nat.reduceLT, Nat.reduceLeDiff, reduceCtorEq, a_cast0, a_pred, a_app1, a_zero, Int.reduceToNat]
  refine callP (spec_RatAdd_c .s .s fls fls r s hs1 hs2) (by simp -dsimp (disch := first | assumption | (simp -dsimp only [go_sem]; done) | fail) only [go_sem]) ?_
  simp -dsimp (disch := first | assumption | (refine OM.mk ?_; omega) | (simp -dsimp only [go_sem]; done) | fail) only [go_sem, ↓reduceIte, Nat.reduceEqDiff, Nat.reduceAdd, Nat.reduceSub, Nat.reduceMul, Nat.reduceLT, Nat.reduceLeDiff, reduceCtorEq, a_cast0, a_pred, a_app1, a_zero, Int.reduceToNat]
  refine callO' (toRatO_c f hf r hs1) (by simp -dsimp (disch := first | assumption | (simp -dsimp only [go_sem]; done) | fail) only [go_sem]) (by simp -dsimp only [go_sem, ↓reduceIte, Nat.reduceEqDiff, Nat.reduceAdd, Nat.reduceSub, Nat.reduceMul, Nat.reduceLT, Nat.reduceLeDiff, reduceCtorEq,  List.forall_mem_cons, List.not_mem_nil, false_implies, implies_true]) ?_
  simp -dsimp (disch := first | assumption | (refine OM.mk ?_; omega) | (simp -dsimp only [go_sem]; done) | fail) only [go_sem, ↓reduceIte, Nat.reduceEqDiff, Nat.reduceAdd, Nat.reduceSub, Nat.reduceMul, Nat.reduceLT, Nat.reduceLeDiff, reduceCtorEq, a_cast0, a_pred, a_app1, a_zero, Int.reduceToNat]
  refine callO' (toRatO_c f hf s hs2) (by simp -dsimp (disch := first | assumption | (simp -dsimp only [go_sem]; done) | fail) only [go_sem]) (by simp -dsimp only [go_sem, ↓reduceIte, Nat.reduceEqDiff, Nat.reduceAdd, Nat.reduceSub, Nat.reduceMul, Nat.reduceLT, Nat.reduceLeDiff, reduceCtorEq,  List.forall_mem_cons, List.not_mem_nil, false_implies, implies_true]) ?_
  simp -dsimp (disch := first | assumption | (refine OM.mk ?_; omega) | (simp -dsimp only [go_sem]; done) | fail) only [go_sem, ↓reduceIte, Nat.reduceEqDiff, Nat.reduceAdd, Nat.reduceSub, Nat.reduceMul, Nat.reduceLT, Nat.reduceLeDiff, reduceCtorEq, a_cast0, a_pred, a_app1, a_zero, Int.reduceToNat]
  have hW := qd_small ((rdq r).add (rdq s))
  have hWz := qd_sz ((rdq r).add (rdq s))
  have hmg := impl_RatAdd_g .b .b flb flb r s hs1 hs2
  have hms := impl_RatAdd_g .s .s fls fls r s hs1 hs2
  generalize qd ((rdq r).add (rdq s)) = W at *
  have k1 := small_sz hs1
  have k2 := small_sz hs2
  refine callO' hmg (by simp -dsimp (disch := first | assumption | (simp -dsimp only [go_sem]; done) | fail) only [go_sem]) (by simp -dsimp only [go_sem, ↓reduceIte, Nat.reduceEqDiff, Nat.reduceAdd, Nat.reduceSub, Nat.reduceMul, Nat.reduceLT, Nat.reduceLeDiff, reduceCtorEq,  List.forall_mem_cons, List.not_mem_nil, false_implies, implies_true]) ?_
  simp -dsimp (disch := first | assumption | (refine OM.mk ?_; omega) | (simp -dsimp only [go_sem]; done) | fail) only [go_sem, ↓reduceIte, Nat.reduceEqDiff, Nat.reduceAdd, Nat.reduceSub, Nat.reduceMul, Nat.reduceLT, Nat.reduceLeDiff, reduceCtorEq, a_cast0, a_pred, a_app1, a_zero, Int.reduceToNat]
  refine callP (eqRat_c .b .s flb fls W W hW) (by simp -dsimp (disch := first | assumption | (simp -dsimp only [go_sem]; done) | fail) only [go_sem]) ?_
  simp -dsimp (disch := first | assumption | (refine OM.mk ?_; omega) | (simp -dsimp only [go_sem]; done) | fail) only [go_sem, ↓reduceIte, Nat.reduceEqDiff, Nat.reduceAdd, Nat.reduceSub, Nat.reduceMul, Nat.reduceLT, Nat.reduceLeDiff, reduceCtorEq, a_cast0, a_pred, a_app1, a_zero, Int.reduceToNat]
  refine callP (toRat_c f hf r hs1) (by simp -dsimp (disch := first | assumption | (simp -dsimp only [go_sem]; done) | fail) only [go_sem]) ?_
  simp -dsimp (disch := first | assumption | (refine OM.mk ?_; omega) | (simp -dsimp only [go_sem]; done) | fail) only [go_sem, ↓reduceIte, Nat.reduceEqDiff, Nat.reduceAdd, Nat.reduceSub, Nat.reduceMul, Nat.reduceLT, Nat.reduceLeDiff, reduceCtorEq, a_cast0, a_pred, a_app1, a_zero, Int.reduceToNat]
  refine callP (eqRat_c .b .s flb fls r r hs1) (by simp -dsimp (disch := first | assumption | (simp -dsimp only [go_sem]; done) | fail) only [go_sem]) ?_
  simp -dsimp (disch := first | assumption | (refine OM.mk ?_; omega) | (simp -dsimp only [go_sem]; done) | fail) only [go_sem, ↓reduceIte, Nat.reduceEqDiff, Nat.reduceAdd, Nat.reduceSub, Nat.reduceMul, Nat.reduceLT, Nat.reduceLeDiff, reduceCtorEq, a_cast0, a_pred, a_app1, a_zero, Int.reduceToNat]
  refine callP (toRat_c f hf s hs2) (by simp -dsimp (disch := first | assumption | (simp -dsimp only [go_sem]; done) | fail) only [go_sem]) ?_
  simp -dsimp (disch := first | assumption | (refine OM.mk ?_; omega) | (simp -dsimp only [go_sem]; done) | fail) only [go_sem, ↓reduceIte, Nat.reduceEqDiff, Nat.reduceAdd, Nat.reduceSub, Nat.reduceMul, Nat.reduceLT, Nat.reduceLeDiff, reduceCtorEq, a_cast0, a_pred, a_app1, a_zero, Int.reduceToNat]
  refine callP (eqRat_c .b .s flb fls s s hs2) (by simp -dsimp (disch := first | assumption | (simp -dsimp only [go_sem]; done) | fail) only [go_sem]) ?_
  simp -dsimp (disch := first | assumption | (refine OM.mk ?_; omega) | (simp -dsimp only [go_sem]; done) | fail) only [go_sem, ↓reduceIte, Nat.reduceEqDiff, Nat.reduceAdd, Nat.reduceSub, Nat.reduceMul, Nat.reduceLT, Nat.reduceLeDiff, reduceCtorEq, a_cast0, a_pred, a_app1, a_zero, Int.reduceToNat]
  refine callG' [3, 4] (markRat_c r 1 hs1 (by omega)) (by decide) (by simp -dsimp (disch := first | assumption | (simp -dsimp only [go_sem]; done) | fail) only [go_sem]) (by simp -dsimp (disch := first | assumption | (simp -dsimp only [go_sem]; done) | fail) only [go_sem]) (by simp -dsimp only [go_sem, ↓reduceIte, Nat.reduceEqDiff, Nat.reduceAdd, Nat.reduceSub, Nat.reduceMul, Nat.reduceLT, Nat.reduceLeDiff, reduceCtorEq]) (by simp -dsimp only [go_sem, ↓reduceIte, Nat.reduceEqDiff, Nat.reduceAdd, Nat.reduceSub, Nat.reduceMul, Nat.reduceLT, Nat.reduceLeDiff, reduceCtorEq,  List.forall_mem_cons, List.not_mem_nil, false_implies, implies_true]) ?_
  simp -dsimp (disch := first | assumption | (refine OM.mk ?_; omega) | (simp -dsimp only [go_sem]; done) | fail) only [go_sem, ↓reduceIte, Nat.reduceEqDiff, Nat.reduceAdd, Nat.reduceSub, Nat.reduceMul, Nat.reduceLT, Nat.reduceLeDiff, reduceCtorEq, a_cast0, a_pred, a_app1, a_zero, Int.reduceToNat]
  refine callG' [6, 7] (markRat_c s (1 + r.sz) hs2 (by omega)) (by decide) (by simp -dsimp (disch := first | assumption | (simp -dsimp only [go_sem]; done) | fail) only [go_sem]) (by simp -dsimp (disch := first | assumption | (simp -dsimp only [go_sem]; done) | fail) only [go_sem]) (by simp -dsimp only [go_sem, ↓reduceIte, Nat.reduceEqDiff, Nat.reduceAdd, Nat.reduceSub, Nat.reduceMul, Nat.reduceLT, Nat.reduceLeDiff, reduceCtorEq]) (by simp -dsimp only [go_sem, ↓reduceIte, Nat.reduceEqDiff, Nat.reduceAdd, Nat.reduceSub, Nat.reduceMul, Nat.reduceLT, Nat.reduceLeDiff, reduceCtorEq,  List.forall_mem_cons, List.not_mem_nil, false_implies, implies_true]) ?_
  simp -dsimp (disch := first | assumption | (refine OM.mk ?_; omega) | (simp -dsimp only [go_sem]; done) | fail) only [go_sem, ↓reduceIte, Nat.reduceEqDiff, Nat.reduceAdd, Nat.reduceSub, Nat.reduceMul, Nat.reduceLT, Nat.reduceLeDiff, reduceCtorEq, a_cast0, a_pred, a_app1, a_zero, Int.reduceToNat]
  refine callP (eqRat_c .b .s flb fls W W hW) (by simp -dsimp (disch := first | assumption | (simp -dsimp only [go_sem]; done) | fail) only [go_sem]) ?_
  simp -dsimp (disch := first | assumption | (refine OM.mk ?_; omega) | (simp -dsimp only [go_sem]; done) | fail) only [go_sem, ↓reduceIte, Nat.reduceEqDiff, Nat.reduceAdd, Nat.reduceSub, Nat.reduceMul, Nat.reduceLT, Nat.reduceLeDiff, reduceCtorEq, a_cast0, a_pred, a_app1, a_zero, Int.reduceToNat]
  refine callG' [9, 10] (markRat_c W 1 hW (by omega)) (by decide) (by simp -dsimp (disch := first | assumption | (simp -dsimp only [go_sem]; done) | fail) only [go_sem]) (by simp -dsimp (disch := first | assumption | (simp -dsimp only [go_sem]; done) | fail) only [go_sem]) (by simp -dsimp only [go_sem, ↓reduceIte, Nat.reduceEqDiff, Nat.reduceAdd, Nat.reduceSub, Nat.reduceMul, Nat.reduceLT, Nat.reduceLeDiff, reduceCtorEq]) (by simp -dsimp only [go_sem, ↓reduceIte, Nat.reduceEqDiff, Nat.reduceAdd, Nat.reduceSub, Nat.reduceMul, Nat.reduceLT, Nat.reduceLeDiff, reduceCtorEq,  List.forall_mem_cons, List.not_mem_nil, false_implies, implies_true]) ?_
  simp -dsimp (disch := first | assumption | (refine OM.mk ?_; omega) | (simp -dsimp only [go_sem]; done) | fail) only [go_sem, ↓reduceIte, Nat.reduceEqDiff, Nat.reduceAdd, Nat.reduceSub, Nat.reduceMul, Nat.reduceLT, Nat.reduceLeDiff, reduceCtorEq, a_cast0, a_pred, a_app1, a_zero, Int.reduceToNat]
  have hh := heldRat_c .b flb (markR W 1) 1 (markR_small hW) (by omega)
  rw [heldR_mark (by omega)] at hh
  refine callP hh (by simp -dsimp (disch := first | assumption | (simp -dsimp only [go_sem]; done) | fail) only [go_sem]) ?_
  simp -dsimp (disch := first | assumption | (refine OM.mk ?_; omega) | (simp -dsimp only [go_sem]; done) | fail) only [go_sem, ↓reduceIte, Nat.reduceEqDiff, Nat.reduceAdd, Nat.reduceSub, Nat.reduceMul, Nat.reduceLT, Nat.reduceLeDiff, reduceCtorEq, a_cast0, a_pred, a_app1, a_zero, Int.reduceToNat]
  refine callP (toRat_c f hf r hs1) (by simp -dsimp (disch := first | assumption | (simp -dsimp only [go_sem]; done) | fail) only [go_sem]) ?_
  simp -dsimp (disch := first | assumption | (refine OM.mk ?_; omega) | (simp -dsimp only [go_sem]; done) | fail) only [go_sem, ↓reduceIte, Nat.reduceEqDiff, Nat.reduceAdd, Nat.reduceSub, Nat.reduceMul, Nat.reduceLT, Nat.reduceLeDiff, reduceCtorEq, a_cast0, a_pred, a_app1, a_zero, Int.reduceToNat]
  refine callP (toRat_c f hf s hs2) (by simp -dsimp (disch := first | assumption | (simp -dsimp only [go_sem]; done) | fail) only [go_sem]) ?_
  simp -dsimp (disch := first | assumption | (refine OM.mk ?_; omega) | (simp -dsimp only [go_sem]; done) | fail) only [go_sem, ↓reduceIte, Nat.reduceEqDiff, Nat.reduceAdd, Nat.reduceSub, Nat.reduceMul, Nat.reduceLT, Nat.reduceLeDiff, reduceCtorEq, a_cast0, a_pred, a_app1, a_zero, Int.reduceToNat]
  refine callO' hms (by simp -dsimp (disch := first | assumption | (simp -dsimp only [go_sem]; done) | fail) only [go_sem]) (by simp -dsimp only [go_sem, ↓reduceIte, Nat.reduceEqDiff, Nat.reduceAdd, Nat.reduceSub, Nat.reduceMul, Nat.reduceLT, Nat.reduceLeDiff, reduceCtorEq,  List.forall_mem_cons, List.not_mem_nil, false_implies, implies_true]) ?_
  simp -dsimp (disch := first | assumption | (refine OM.mk ?_; omega) | (simp -dsimp only [go_sem]; done) | fail) only [go_sem, ↓reduceIte, Nat.reduceEqDiff, Nat.reduceAdd, Nat.reduceSub, Nat.reduceMul, Nat.reduceLT, Nat.reduceLeDiff, reduceCtorEq, a_cast0, a_pred, a_app1, a_zero, Int.reduceToNat]
  refine callP (eqRat_c .b .s flb fls W W hW) (by simp -dsimp (disch := first | assumption | (simp -dsimp only [go_sem]; done) | fail) only [go_sem]) ?_
  simp -dsimp (disch := first | assumption | (refine OM.mk ?_; omega) | (simp -dsimp only [go_sem]; done) | fail) only [go_sem, ↓reduceIte, Nat.reduceEqDiff, Nat.reduceAdd, Nat.reduceSub, Nat.reduceMul, Nat.reduceLT, Nat.reduceLeDiff, reduceCtorEq, a_cast0, a_pred, a_app1, a_zero, Int.reduceToNat]
  refine callP hh (by simp -dsimp (disch := first | assumption | (simp -dsimp only [go_sem]; done) | fail) only [go_sem]) ?_
  simp -dsimp (disch := first | assumption | (refine OM.mk ?_; omega) | (simp -dsimp only [go_sem]; done) | fail) only [go_sem, ↓reduceIte, Nat.reduceEqDiff, Nat.reduceAdd, Nat.reduceSub, Nat.reduceMul, Nat.reduceLT, Nat.reduceLeDiff, reduceCtorEq, a_cast0, a_pred, a_app1, a_zero, Int.reduceToNat]
theorem FnExactRatSub_c (f : Fl) (hf : f ≠ .u) (r s : RD) (hr : r.fit) (hs : s.fit) : PC PP F_laws_FnExactRatSub [rV f r, rV f s] (Bo true) [] := by
  have hz1 := szRat_c f hf r 1048576 hr (by omega)
  have hb1 := szI_rng (n := 1048576) (k := r.sz) (by omega)
  have hz2 := szRat_c f hf s (szI 1048576 r.sz) hs hb1
  have hs1 : 0 ≤ szI 1048576 r.sz → r.small := fun h => RD.small_of (szI_small (by omega) h)
  have hs2 : 0 ≤ szI (szI 1048576 r.sz) s.sz → s.small := fun h => RD.small_of (szI_small hb1.2 h)
  generalize szI 1048576 r.sz = z at *
  generalize szI z s.sz = y at *
  refine txe W_laws_FnExactRatSub ke_laws_FnExactRatSub [] [] [19, 20, 24] (by kernel_rfl) ?_
  simp -dsimp (disch := first | assumption | (refine OM.mk ?_; omega) | (simp -dsimp only [go_sem]; done) | fail) only [go_sem, ↓reduceIte, Nat.reduceEqDiff, Nat.reduceAdd, Nat.reduceSub, Nat.reduceMul, Nat.reduceLT, Nat.reduceLeDiff, reduceCtorEq, a_cast0, a_pred, a_app1, a_zero, Int.reduceToNat]
  refine callP hz1 (by simp -dsimp (disch := first | assumption | (simp -dsimp only [go_sem]; done) | fail) only [go_sem]) ?_
  simp -dsimp (disch := first | assumption | (refine OM.mk ?_; omega) | (simp -dsimp only [go_sem]; done) | fail) only [go_sem, ↓reduceIte, Nat.reduceEqDiff, Nat.reduceAdd, Nat.reduceSub, Nat.reduceMul, Nat.reduceLT, Nat.reduceLeDiff, reduceCtorEq, a_cast0, a_pred, a_app1, a_zero, Int.reduceToNat]
  intro g1
  have hs1 := hs1 (by omega)
  refine callP hz2 (by simp -dsimp (disch := first | assumption | (simp -dsimp only [go_sem]; done) | fail) only [go_sem]) ?_
  simp -dsimp (disch := first | assumption | (refine OM.mk ?_; omega) | (simp -dsimp only [go_sem]; done) | fail) only [go_sem, ↓reduceIte, Nat.reduceEqDiff, Nat.reduceAdd, Nat.reduceSub, Nat.reduceMul, Nat.reduceLT, Nat.reduceLeDiff, reduceCtorEq, a_cast0, a_pred, a_app1, a_zero, Int.reduceToNat]
  intro g2
  have hs2 := hs2 (by omega)
  refine callP (toRat_c f hf r hs1) (by simp -dsimp (disch := first | assumption | (simp -dsimp only [go_sem]; done) | fail) only [go_sem]) ?_
  simp -dsimp (disch := first | assumption | (refine OM.mk ?_; omega) | (simp -dsimp only [go_sem]; done) | fail) only [go_sem, ↓reduceIte, Nat.reduceEqDiff, Nat.reduceAdd, Nat.reduceSub, Nat.reduceMul, Nat.reduceLT, Nat.reduceLeDiff, reduceCtorEq, a_cast0, a_pred, a_app1, a_zero, Int.reduceToNat]
  refine callP (toRat_c f hf s hs2) (by simp -dsimp (disch := first | assumption | (simp -dsimp only [go_sem]; done) | fail) only [go_sem]) ?_
  simp -dsimp (disch := first | assumption | (refine OM.mk ?_; omega) | (simp -dsimp only [go_sem]; done) | fail) only [go_sem, ↓reduceIte, Nat.reduceEqDiff, Nat.reduceAdd, Nat.reduceSub, Nat.reduceMul, Nat.reduceLT, Nat.reduceLeDiff, reduceCtorEq, a_cast0, a_pred, a_app1, a_zero, Int.reduceToNat]
  refine callP (spec_RatSub_c .s .s fls fls r s hs1 hs2) (by simp -dsimp (disch := first | assumption | (simp -dsimp only [go_sem]; done) | fail) only [go_sem]) ?_
  simp -dsimp (disch := first | assumption | (refine OM.mk ?_; omega) | (simp -dsimp only [go_sem]; done) | fail) only [go_sem, ↓reduceIte, Nat.reduceEqDiff, Nat.reduceAdd, Nat.reduceSub, Nat.reduceMul, Nat.reduceLT, Nat.reduceLeDiff, reduceCtorEq, a_cast0, a_pred, a_app1, a_zero, Int.reduceToNat]
  refine callO' (toRatO_c f hf r hs1) (by simp -dsimp (disch := first | assumption | (simp -dsimp only [go_sem]; done) | fail) only [go_sem]) (by simp -dsimp only [go_sem, ↓reduceIte, Nat.reduceEqDiff, Nat.reduceAdd, Nat.reduceSub, Nat.reduceMul, Nat.reduceLT, Nat.reduceLeDiff, reduceCtorEq,  List.forall_mem_cons, List.not_mem_nil, false_implies, implies_true]) ?_
  simp -dsimp (disch := first | assumption | (refine OM.mk ?_; omega) | (simp -dsimp only [go_sem]; done) | fail) only [go_sem, ↓reduceIte, Nat.reduceEqDiff, Nat.reduceAdd, Nat.reduceSub, Nat.reduceMul, Nat.reduceLT, Nat.reduceLeDiff, reduceCtorEq, a_cast0, a_pred, a_app1, a_zero, Int.reduceToNat]
  refine callO' (toRatO_c f hf s hs2) (by simp -dsimp (disch := first | assumption | (simp -dsimp only [go_sem]; done) | fail) only [go_sem]) (by simp -dsimp only [go_sem, ↓reduceIte, Nat.reduceEqDiff, Nat.reduceAdd, Nat.reduceSub, Nat.reduceMul, Nat.reduceLT, Nat.reduceLeDiff, reduceCtorEq,  List.forall_mem_cons, List.not_mem_nil, false_implies, implies_true]) ?_
  simp -dsimp (disch := first | assumption | (refine OM.mk ?_; omega) | (simp -dsimp only [go_sem]; done) | fail) only [go_sem, ↓reduceIte, Nat.reduceEqDiff, Nat.reduceAdd, Nat.reduceSub, Nat.reduceMul, Nat.reduceLT, Nat.reduceLeDiff, reduceCtorEq, a_cast0, a_pred, a_app1, a_zero, Int.reduceToNat]
  have hW := qd_small ((rdq r).sub (rdq s))
  have hWz := qd_sz ((rdq r).sub (rdq s))
  have hmg := impl_RatSub_g .b .b flb flb r s hs1 hs2
  have hms := impl_RatSub_g .s .s fls fls r s hs1 hs2
  generalize qd ((rdq r).sub (rdq s)) = W at *
  have k1 := small_sz hs1
  have k2 := small_sz hs2
  refine callO' hmg (by simp -dsimp (disch := first | assumption | (simp -dsimp only [go_sem]; done) | fail) only [go_sem]) (by simp -dsimp only [go_sem, ↓reduceIte, Nat.reduceEqDiff, Nat.reduceAdd, Nat.reduceSub, Nat.reduceMul, Nat.reduceLT, Nat.reduceLeDiff, reduceCtorEq,  List.forall_mem_cons, List.not_mem_nil, false_implies, implies_true]) ?_
  simp -dsimp (disch := first | assumption | (refine OM.mk ?_; omega) | (simp -dsimp only [go_sem]; done) | fail) only [go_sem, ↓reduceIte, Nat.reduceEqDiff, Nat.reduceAdd, Nat.reduceSub, Nat.reduceMul, Nat.reduceLT, Nat.reduceLeDiff, reduceCtorEq, a_cast0, a_pred, a_app1, a_zero, Int.reduceToNat]
  refine callP (eqRat_c .b .s flb fls W W hW) (by simp -dsimp (disch := first | assumption | (simp -dsimp only [go_sem]; done) | fail) only [go_sem]) ?_
  simp -dsimp (disch := first | assumption | (refine OM.mk ?_; omega) | (simp -dsimp only [go_sem]; done) | fail) only [go_sem, ↓reduceIte, Nat.reduceEqDiff, Nat.reduceAdd, Nat.reduceSub, Nat.reduceMul, Nat.reduceLT, Nat.reduceLeDiff, reduceCtorEq, a_cast0, a_pred, a_app1, a_zero, Int.reduceToNat]
  refine callP (toRat_c f hf r hs1) (by simp -dsimp (disch := first | assumption | (simp -dsimp only [go_sem]; done) | fail) only [go_sem]) ?_
  simp -dsimp (disch := first | assumption | (refine OM.mk ?_; omega) | (simp -dsimp only [go_sem]; done) | fail) only [go_sem, ↓reduceIte, Nat.reduceEqDiff, Nat.reduceAdd, Nat.reduceSub, Nat.reduceMul, Nat.reduceLT, Nat.reduceLeDiff, reduceCtorEq, a_cast0, a_pred, a_app1, a_zero, Int.reduceToNat]
  refine callP (eqRat_c .b .s flb fls r r hs1) (by simp -dsimp (disch := first | assumption | (simp -dsimp only [go_sem]; done) | fail) only [go_sem]) ?_
  simp -dsimp (disch := first | assumption | (refine OM.mk ?_; omega) | (simp -dsimp only [go_sem]; done) | fail) only [go_sem, ↓reduceIte, Nat.reduceEqDiff, Nat.reduceAdd, Nat.reduceSub, Nat.reduceMul, Nat.reduceLT, Nat.reduceLeDiff, reduceCtorEq, a_cast0, a_pred, a_app1, a_zero, Int.reduceToNat]
  refine callP (toRat_c f hf s hs2) (by simp -dsimp (disch := first | assumption | (simp -dsimp only [go_sem]; done) | fail) only [go_sem]) ?_
  simp -dsimp (disch := first | assumption | (refine OM.mk ?_; omega) | (simp -dsimp only [go_sem]; done) | fail) only [go_sem, ↓reduceIte, Nat.reduceEqDiff, Nat.reduceAdd, Nat.reduceSub, Nat.reduceMul, Nat.reduceLT, Nat.reduceLeDiff, reduceCtorEq, a_cast0, a_pred, a_app1, a_zero, Int.reduceToNat]
  refine callP (eqRat_c .b .s flb fls s s hs2) (by simp -dsimp (disch := first | assumption | (simp -dsimp only [go_sem]; done) | fail) only [go_sem]) ?_
  simp -dsimp (disch := first | assumption | (refine OM.mk ?_; omega) | (simp -dsimp only [go_sem]; done) | fail) only [go_sem, ↓reduceIte, Nat.reduceEqDiff, Nat.reduceAdd, Nat.reduceSub, Nat.reduceMul, Nat.reduceLT, Nat.reduceLeDiff, reduceCtorEq, a_cast0, a_pred, a_app1, a_zero, Int.reduceToNat]
  refine callG' [3, 4] (markRat_c r 1 hs1 (by omega)) (by decide) (by simp -dsimp (disch := first | assumption | (simp -dsimp only [go_sem]; done) | fail) only [go_sem]) (by simp -dsimp (disch := first | assumption | (simp -dsimp only [go_sem]; done) | fail) only [go_sem]) (by simp -dsimp only [go_sem, ↓reduceIte, Nat.reduceEqDiff, Nat.reduceAdd, Nat.reduceSub, Nat.reduceMul, Nat.reduceLT, Nat.reduceLeDiff, reduceCtorEq]) (by simp -dsimp only [go_sem, ↓reduceIte, Nat.reduceEqDiff, Nat.reduceAdd, Nat.reduceSub, Nat.reduceMul, Nat.reduceLT, Nat.reduceLeDiff, reduceCtorEq,  List.forall_mem_cons, List.not_mem_nil, false_implies, implies_true]) ?_
  simp -dsimp (disch := first | assumption | (refine OM.mk ?_; omega) | (simp -dsimp only [go_sem]; done) | fail) only [go_sem, ↓reduceIte, Nat.reduceEqDiff, Nat.reduceAdd, Nat.reduceSub, Nat.reduceMul, Nat.reduceLT, Nat.reduceLeDiff, reduceCtorEq, a_cast0, a_pred, a_app1, a_zero, Int.reduceToNat]
  refine callG' [6, 7] (markRat_c s (1 + r.sz) hs2 (by omega)) (by decide) (by simp -dsimp (disch := first | assumption | (simp -dsimp only [go_sem]; done) | fail) only [go_sem]) (by simp -dsimp (disch := first | assumption | (simp -dsimp only [go_sem]; done) | fail) only [go_sem]) (by simp -dsimp only [go_sem, ↓reduceIte, Nat.reduceEqDiff, Nat.reduceAdd, Nat.reduceSub, Nat.reduceMul, Nat.reduceLT, Nat.reduceLeDiff, reduceCtorEq]) (by simp -dsimp only [go_sem, ↓reduceIte, Nat.reduceEqDiff, Nat.reduceAdd, Nat.reduceSub, Nat.reduceMul, Nat.reduceLT, Nat.reduceLeDiff, reduceCtorEq,  List.forall_mem_cons, List.not_mem_nil, false_implies, implies_true]) ?_
  simp -dsimp (disch := first | assumption | (refine OM.mk ?_; omega) | (simp -dsimp only [go_sem]; done) | fail) only [go_sem, ↓reduceIte, Nat.reduceEqDiff, Nat.reduceAdd, Nat.reduceSub, Nat.reduceMul, Nat.reduceLT, Nat.reduceLeDiff, reduceCtorEq, a_cast0, a_pred, a_app1, a_zero, Int.reduceToNat]
  refine callP (eqRat_c .b .s flb fls W W hW) (by simp -dsimp (disch := first | assumption | (simp -dsimp only [go_sem]; done) | fail) only [go_sem]) ?_
  simp -dsimp (disch := first | assumption | (refine OM.mk ?_; omega) | (simp -dsimp only [go_sem]; done) | fail) only [go_sem, ↓reduceIte, Nat.reduceEqDiff, Nat.reduceAdd, Nat.reduceSub, Nat.reduceMul, Nat.reduceLT, Nat.reduceLeDiff, reduceCtorEq, a_cast0, a_pred, a_app1, a_zero, Int.reduceToNat]
  refine callG' [9, 10] (markRat_c W 1 hW (by omega)) (by decide) (by simp -dsimp (disch := first | assumption | (simp -dsimp only [go_sem]; done) | fail) only [go_sem]) (by simp -dsimp (disch := first | assumption | (simp -dsimp only [go_sem]; done) | fail) only [go_sem]) (by simp -dsimp only [go_sem, ↓reduceIte, Nat.reduceEqDiff, Nat.reduceAdd, Nat.reduceSub, Nat.reduceMul, Nat.reduceLT, Nat.reduceLeDiff, reduceCtorEq]) (by simp -dsimp only [go_sem, ↓reduceIte, Nat.reduceEqDiff, Nat.reduceAdd, Nat.reduceSub, Nat.reduceMul, Nat.reduceLT, Nat.reduceLeDiff, reduceCtorEq,  List.forall_mem_cons, List.not_mem_nil, false_implies, implies_true]) ?_
  simp -dsimp (disch := first | assumption | (refine OM.mk ?_; omega) | (simp -dsimp only [go_sem]; done) | fail) only [go_sem, ↓reduceIte, Nat.reduceEqDiff, Nat.reduceAdd, Nat.reduceSub, Nat.reduceMul, Nat.reduceLT, Nat.reduceLeDiff, reduceCtorEq, a_cast0, a_pred, a_app1, a_zero, Int.reduceToNat]
  have hh := heldRat_c .b flb (markR W 1) 1 (markR_small hW) (by omega)
  rw [heldR_mark (by omega)] at hh
  refine callP hh (by simp -dsimp (disch := first | assumption | (simp -dsimp only [go_sem]; done) | fail) only [go_sem]) ?_
  simp -dsimp (disch := first | assumption | (refine OM.mk ?_; omega) | (simp -dsimp only [go_sem]; done) | fail) only [go_sem, ↓reduceIte, Nat.reduceEqDiff, Nat.reduceAdd, Nat.reduceSub, Nat.reduceMul, Nat.reduceLT, Nat.reduceLeDiff, reduceCtorEq, a_cast0, a_pred, a_app1, a_zero, Int.reduceToNat]
  refine callP (toRat_c f hf r hs1) (by simp -dsimp (disch := first | assumption | (simp -dsimp only [go_sem]; done) | fail) only [go_sem]) ?_
  simp -dsimp (disch := first | assumption | (refine OM.mk ?_; omega) | (simp -dsimp only [go_sem]; done) | fail) only [go_sem, ↓reduceIte, Nat.reduceEqDiff, Nat.reduceAdd, Nat.reduceSub, Nat.reduceMul, Nat.reduceLT, Nat.reduceLeDiff, reduceCtorEq, a_cast0, a_pred, a_app1, a_zero, Int.reduceToNat]
  refine callP (toRat_c f hf s hs2) (by simp -dsimp (disch := first | assumption | (simp -dsimp only [go_sem]; done) | fail) only [go_sem]) ?_
  simp -dsimp (disch := first | assumption | (refine OM.mk ?_; omega) | (simp -dsimp only [go_sem]; done) | fail) only [go_sem, ↓reduceIte, Nat.reduceEqDiff, Nat.reduceAdd, Nat.reduceSub, Nat.reduceMul, Nat.reduceLT, Nat.reduceLeDiff, reduceCtorEq, a_cast0, a_pred, a_app1, a_zero, Int.reduceToNat]
  refine callO' hms (by simp -dsimp (disch := first | assumption | (simp -dsimp only [go_sem]; done) | fail) only [go_sem]) (by simp -dsimp only [go_sem, ↓reduceIte, Nat.reduceEqDiff, Nat.reduceAdd, Nat.reduceSub, Nat.reduceMul, Nat.reduceLT, Nat.reduceLeDiff, reduceCtorEq,  List.forall_mem_cons, List.not_mem_nil, false_implies, implies_true]) ?_
  simp -dsimp (disch := first | assumption | (refine OM.mk ?_; omega) | (simp -dsimp only [go_sem]; done) | fail) only [go_sem, ↓reduceIte, Nat.reduceEqDiff, Nat.reduceAdd, Nat.reduceSub, Nat.reduceMul, Nat.reduceLT, Nat.reduceLeDiff, reduceCtorEq, a_cast0, a_pred, a_app1, a_zero, Int.reduceToNat]
  refine callP (eqRat_c .b .s flb fls W W hW) (by simp -dsimp (disch := first | assumption | (simp -dsimp only [go_sem]; done) | fail) only [go_sem]) ?_
  simp -dsimp (disch := first | assumption | (refine OM.mk ?_; omega) | (simp -dsimp only [go_sem]; done) | fail) only [go_sem, ↓reduceIte, Nat.reduceEqDiff, Nat.reduceAdd, Nat.reduceSub, Nat.reduceMul, Nat.reduceLT, Nat.reduceLeDiff, reduceCtorEq, a_cast0, a_pred, a_app1, a_zero, Int.reduceToNat]
  refine callP hh (by simp -dsimp (disch := first | assumption | (simp -dsimp only [go_sem]; done) | fail) only [go_sem]) ?_
  simp -dsimp (disch := first | assumption | (refine OM.mk ?_; omega) | (simp -dsimp only [go_sem]; done) | fail) only [go_sem, ↓reduceIte, Nat.reduceEqDiff, Nat.reduceAdd, Nat.reduceSub, Nat.reduceMul, Nat.reduceLT, Nat.reduceLeDiff, reduceCtorEq, a_cast0, a_pred, a_app1, a_zero, Int.reduceToNat]
end Go.Proofs.Ytekhgkpnhenecaa
