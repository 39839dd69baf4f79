/- The law of ScaleVector. -/
import Derived.Test.YtekhgkpnhenecaaJa
import Derived.Test.YtekhgkpnhenecaaGr
namespace Go.Proofs.Ytekhgkpnhenecaa
open Go Go.RowKit
set_option maxRecDepth 100000
set_option maxHeartbeats 4000000
set_option linter.unusedVariables false
set_option linter.unusedSimpArgs false

attribute [go_sem] markS_length
theorem doneQ_len (l : List FQ) : (doneQ l).1.length ≤ l.length := by unfold doneQ; split <;> simp
theorem vokR_len {l : List RD} (h : vokR l = true) : l.length ≤ 24 := by unfold vokR at h; simp at h; exact h.1
theorem scaleQ_len (r : RD) (l : List RD) : (scaleQ r l).1.length ≤ 24 := by
  unfold scaleQ
  split
  · rename_i h
    simp only [Bool.and_eq_true] at h
    have h1 := doneQ_len ((l.map rdq).map (rdq r).mul)
    have h2 := vokR_len h.2
    simp only [List.length_map] at h1
    omega
  · simp
theorem spec_ScaleVector_s (p0 : RD) (p1 : List RD) (h0 : p0.small) (h1 : smallL p1) : PC PP F_spec_ScaleVector [rV .s p0, sR .s p1] (vsS (scaleQ p0 p1)) [] := spec_ScaleVector_c .s .s fls fls p0 p1 h0 h1
theorem impl_ScaleVector_i (f : Fl) (hf : f ≠ .u) (p0 : RD) (p1 : List RD) (h0 : p0.small) (h1 : smallL p1) : GC PP F_impl_ScaleVector [rV f p0, sR f p1] [] (.tup [.rsl 0 3 0 ((scaleQ p0 p1).1.map qd).length, Bo (scaleQ p0 p1).2]) [⟨.own, T_impl_Rat, rsC .u ((scaleQ p0 p1).1.map qd)⟩] := by
  rw [List.length_map]; exact impl_ScaleVector_g f f hf hf p0 p1 h0 h1
theorem ScaleVector_W (p0 : RD) (p1 : List RD) (h0 : p0.small) (h1 : smallL p1) : smallL ((scaleQ p0 p1).1.map qd) ∧ szL ((scaleQ p0 p1).1.map qd) ≤ 100000 := qdl_small (by have := scaleQ_len p0 p1; omega)
theorem FnExactScaleVector_c (f : Fl) (hf : f ≠ .u) (p0 : RD) (p1 : List RD) (g0 : p0.fit) (g1 : fitL p1) : PC PP F_laws_FnExactScaleVector [rV f p0, sR f p1] (Bo true) [] := by
  have hz0 := szRat_c f hf p0 1048576 g0 (by omega)
  have hb0 := szI_rng (n := 1048576) (k := p0.sz) (by omega)
  have hs0 : 0 ≤ szI 1048576 (p0.sz) → p0.small ∧ p0.sz ≤ 1048576 := fun h => ⟨RD.small_of (szI_small (by omega) h), szI_small (by omega) h⟩
  generalize szI 1048576 (p0.sz) = z0 at *
  have hz1 := szRatS_c f hf p1 z0 g1 hb0
  have hb1 := szI_rng (n := z0) (k := szL p1) (by omega)
  have hs1 : 0 ≤ szI z0 (szL p1) → smallL p1 ∧ szL p1 ≤ 1048576 := fun h => ⟨smallL_of (szI_small (by omega) h), szI_small (by omega) h⟩
  generalize szI z0 (szL p1) = z1 at *
  refine txe W_laws_FnExactScaleVector ke_laws_FnExactScaleVector [] [] [19, 20, 24] (by kernel_rfl) ?_
  simp -dsimp (disch := first | assumption | (refine OM.mk ?_; first | omega | (simp only [List.length_map, List.length_set, List.length_take] <;> omega)) | (simp -dsimp only [go_sem]; done) | fail) only [go_sem, ↓reduceIte, Nat.reduceEqDiff, Nat.reduceAdd, Nat.reduceSub, Nat.reduceMul, Nat.reduceLT, Nat.reduceLeDiff, reduceCtorEq, a_eq, a_neq, a_cast0, a_pred, a_app1, a_zero, Int.reduceToNat]
  refine callP hz0 (by simp -dsimp (disch := first | assumption | (simp -dsimp only [go_sem]; done) | fail) only [go_sem]) ?_
  simp -dsimp (disch := first | assumption | (refine OM.mk ?_; first | omega | (simp only [List.length_map, List.length_set, List.length_take] <;> omega)) | (simp -dsimp only [go_sem]; done) | fail) only [go_sem, ↓reduceIte, Nat.reduceEqDiff, Nat.reduceAdd, Nat.reduceSub, Nat.reduceMul, Nat.reduceLT, Nat.reduceLeDiff, reduceCtorEq, a_eq, a_neq, a_cast0, a_pred, a_app1, a_zero, Int.reduceToNat]
  intro qp0
  obtain ⟨s0, s0k⟩ := hs0 (by omega)
  refine callP hz1 (by simp -dsimp (disch := first | assumption | (simp -dsimp only [go_sem]; done) | fail) only [go_sem]) ?_
  simp -dsimp (disch := first | assumption | (refine OM.mk ?_; first | omega | (simp only [List.length_map, List.length_set, List.length_take] <;> omega)) | (simp -dsimp only [go_sem]; done) | fail) only [go_sem, ↓reduceIte, Nat.reduceEqDiff, Nat.reduceAdd, Nat.reduceSub, Nat.reduceMul, Nat.reduceLT, Nat.reduceLeDiff, reduceCtorEq, a_eq, a_neq, a_cast0, a_pred, a_app1, a_zero, Int.reduceToNat]
  intro qp1
  obtain ⟨s1, s1k⟩ := hs1 (by omega)
  refine callP (toRat_c f hf p0 s0) (by simp -dsimp (disch := first | assumption | (simp -dsimp only [go_sem]; done) | fail) only [go_sem]) ?_
  simp -dsimp (disch := first | assumption | (refine OM.mk ?_; first | omega | (simp only [List.length_map, List.length_set, List.length_take] <;> omega)) | (simp -dsimp only [go_sem]; done) | fail) only [go_sem, ↓reduceIte, Nat.reduceEqDiff, Nat.reduceAdd, Nat.reduceSub, Nat.reduceMul, Nat.reduceLT, Nat.reduceLeDiff, reduceCtorEq, a_eq, a_neq, a_cast0, a_pred, a_app1, a_zero, Int.reduceToNat]
  refine callP (toRatS_c f hf p1 s1) (by simp -dsimp (disch := first | assumption | (simp -dsimp only [go_sem]; done) | fail) only [go_sem]) ?_
  simp -dsimp (disch := first | assumption | (refine OM.mk ?_; first | omega | (simp only [List.length_map, List.length_set, List.length_take] <;> omega)) | (simp -dsimp only [go_sem]; done) | fail) only [go_sem, ↓reduceIte, Nat.reduceEqDiff, Nat.reduceAdd, Nat.reduceSub, Nat.reduceMul, Nat.reduceLT, Nat.reduceLeDiff, reduceCtorEq, a_eq, a_neq, a_cast0, a_pred, a_app1, a_zero, Int.reduceToNat]
  refine callP (spec_ScaleVector_s p0 p1 s0 s1) (by simp -dsimp (disch := first | assumption | (simp -dsimp only [go_sem]; done) | fail) only [go_sem]) ?_
  simp -dsimp (disch := first | assumption | (refine OM.mk ?_; first | omega | (simp only [List.length_map, List.length_set, List.length_take] <;> omega)) | (simp -dsimp only [go_sem]; done) | fail) only [go_sem, ↓reduceIte, Nat.reduceEqDiff, Nat.reduceAdd, Nat.reduceSub, Nat.reduceMul, Nat.reduceLT, Nat.reduceLeDiff, reduceCtorEq, a_eq, a_neq, a_cast0, a_pred, a_app1, a_zero, Int.reduceToNat]
  refine callO' (toRatO_c f hf p0 s0) (by simp -dsimp (disch := first | assumption | (simp -dsimp only [go_sem]; done) | fail) only [go_sem]) (by simp -dsimp only [go_sem, ↓reduceIte, Nat.reduceEqDiff, Nat.reduceAdd, Nat.reduceSub, Nat.reduceMul, Nat.reduceLT, Nat.reduceLeDiff, reduceCtorEq,  List.forall_mem_cons, List.not_mem_nil, false_implies, implies_true]) ?_
  simp -dsimp (disch := first | assumption | (refine OM.mk ?_; first | omega | (simp only [List.length_map, List.length_set, List.length_take] <;> omega)) | (simp -dsimp only [go_sem]; done) | fail) only [go_sem, ↓reduceIte, Nat.reduceEqDiff, Nat.reduceAdd, Nat.reduceSub, Nat.reduceMul, Nat.reduceLT, Nat.reduceLeDiff, reduceCtorEq, a_eq, a_neq, a_cast0, a_pred, a_app1, a_zero, Int.reduceToNat]
  refine callO' (toRatSO_c f hf p1 s1) (by simp -dsimp (disch := first | assumption | (simp -dsimp only [go_sem]; done) | fail) only [go_sem]) (by simp -dsimp only [go_sem, ↓reduceIte, Nat.reduceEqDiff, Nat.reduceAdd, Nat.reduceSub, Nat.reduceMul, Nat.reduceLT, Nat.reduceLeDiff, reduceCtorEq,  List.forall_mem_cons, List.not_mem_nil, false_implies, implies_true]) ?_
  simp -dsimp (disch := first | assumption | (refine OM.mk ?_; first | omega | (simp only [List.length_map, List.length_set, List.length_take] <;> omega)) | (simp -dsimp only [go_sem]; done) | fail) only [go_sem, ↓reduceIte, Nat.reduceEqDiff, Nat.reduceAdd, Nat.reduceSub, Nat.reduceMul, Nat.reduceLT, Nat.reduceLeDiff, reduceCtorEq, a_eq, a_neq, a_cast0, a_pred, a_app1, a_zero, Int.reduceToNat]
  have hig := impl_ScaleVector_i .b flb p0 p1 s0 s1
  have his := impl_ScaleVector_i .s fls p0 p1 s0 s1
  obtain ⟨hSw0, hKw0⟩ := ScaleVector_W p0 p1 s0 s1
  generalize (scaleQ p0 p1).1.map qd = w0 at *
  generalize (scaleQ p0 p1).2 = w1 at *
  refine callO' hig (by simp -dsimp (disch := first | assumption | (simp -dsimp only [go_sem]; done) | fail) only [go_sem]) (by simp -dsimp only [go_sem, ↓reduceIte, Nat.reduceEqDiff, Nat.reduceAdd, Nat.reduceSub, Nat.reduceMul, Nat.reduceLT, Nat.reduceLeDiff, reduceCtorEq,  List.forall_mem_cons, List.not_mem_nil, false_implies, implies_true]) ?_
  simp -dsimp (disch := first | assumption | (refine OM.mk ?_; first | omega | (simp only [List.length_map, List.length_set, List.length_take] <;> omega)) | (simp -dsimp only [go_sem]; done) | fail) only [go_sem, ↓reduceIte, Nat.reduceEqDiff, Nat.reduceAdd, Nat.reduceSub, Nat.reduceMul, Nat.reduceLT, Nat.reduceLeDiff, reduceCtorEq, a_eq, a_neq, a_cast0, a_pred, a_app1, a_zero, Int.reduceToNat]
  refine callP (eqRatS_c .b .s flb fls w0 w0 hSw0) (by simp -dsimp (disch := first | assumption | (simp -dsimp only [go_sem]; done) | fail) only [go_sem]) ?_
  simp -dsimp (disch := first | assumption | (refine OM.mk ?_; first | omega | (simp only [List.length_map, List.length_set, List.length_take] <;> omega)) | (simp -dsimp only [go_sem]; done) | fail) only [go_sem, ↓reduceIte, Nat.reduceEqDiff, Nat.reduceAdd, Nat.reduceSub, Nat.reduceMul, Nat.reduceLT, Nat.reduceLeDiff, reduceCtorEq, a_eq, a_neq, a_cast0, a_pred, a_app1, a_zero, Int.reduceToNat,  bne_self_eq_false]
  refine callP (toRat_c f hf p0 s0) (by simp -dsimp (disch := first | assumption | (simp -dsimp only [go_sem]; done) | fail) only [go_sem]) ?_
  simp -dsimp (disch := first | assumption | (refine OM.mk ?_; first | omega | (simp only [List.length_map, List.length_set, List.length_take] <;> omega)) | (simp -dsimp only [go_sem]; done) | fail) only [go_sem, ↓reduceIte, Nat.reduceEqDiff, Nat.reduceAdd, Nat.reduceSub, Nat.reduceMul, Nat.reduceLT, Nat.reduceLeDiff, reduceCtorEq, a_eq, a_neq, a_cast0, a_pred, a_app1, a_zero, Int.reduceToNat]
  refine callP (eqRat_c .b .s flb fls p0 p0 s0) (by simp -dsimp (disch := first | assumption | (simp -dsimp only [go_sem]; done) | fail) only [go_sem]) ?_
  simp -dsimp (disch := first | assumption | (refine OM.mk ?_; first | omega | (simp only [List.length_map, List.length_set, List.length_take] <;> omega)) | (simp -dsimp only [go_sem]; done) | fail) only [go_sem, ↓reduceIte, Nat.reduceEqDiff, Nat.reduceAdd, Nat.reduceSub, Nat.reduceMul, Nat.reduceLT, Nat.reduceLeDiff, reduceCtorEq, a_eq, a_neq, a_cast0, a_pred, a_app1, a_zero, Int.reduceToNat]
  refine callP (toRatS_c f hf p1 s1) (by simp -dsimp (disch := first | assumption | (simp -dsimp only [go_sem]; done) | fail) only [go_sem]) ?_
  simp -dsimp (disch := first | assumption | (refine OM.mk ?_; first | omega | (simp only [List.length_map, List.length_set, List.length_take] <;> omega)) | (simp -dsimp only [go_sem]; done) | fail) only [go_sem, ↓reduceIte, Nat.reduceEqDiff, Nat.reduceAdd, Nat.reduceSub, Nat.reduceMul, Nat.reduceLT, Nat.reduceLeDiff, reduceCtorEq, a_eq, a_neq, a_cast0, a_pred, a_app1, a_zero, Int.reduceToNat]
  refine callP (eqRatS_c .b .s flb fls p1 p1 s1) (by simp -dsimp (disch := first | assumption | (simp -dsimp only [go_sem]; done) | fail) only [go_sem]) ?_
  simp -dsimp (disch := first | assumption | (refine OM.mk ?_; first | omega | (simp only [List.length_map, List.length_set, List.length_take] <;> omega)) | (simp -dsimp only [go_sem]; done) | fail) only [go_sem, ↓reduceIte, Nat.reduceEqDiff, Nat.reduceAdd, Nat.reduceSub, Nat.reduceMul, Nat.reduceLT, Nat.reduceLeDiff, reduceCtorEq, a_eq, a_neq, a_cast0, a_pred, a_app1, a_zero, Int.reduceToNat]
  have hkp0 := small_sz s0
  refine callG' [1, 2] (markRat_c p0 (1) s0 (by omega)) (by decide) (by simp -dsimp (disch := first | assumption | (simp -dsimp only [go_sem]; done) | fail) only [go_sem]) (by simp -dsimp (disch := first | assumption | (simp -dsimp only [go_sem]; done) | fail) only [go_sem]) (by simp -dsimp only [go_sem, ↓reduceIte, Nat.reduceEqDiff, Nat.reduceAdd, Nat.reduceSub, Nat.reduceMul, Nat.reduceLT, Nat.reduceLeDiff, reduceCtorEq]) (by simp -dsimp only [go_sem, ↓reduceIte, Nat.reduceEqDiff, Nat.reduceAdd, Nat.reduceSub, Nat.reduceMul, Nat.reduceLT, Nat.reduceLeDiff, reduceCtorEq,  List.forall_mem_cons, List.not_mem_nil, false_implies, implies_true]) ?_
  simp -dsimp (disch := first | assumption | (refine OM.mk ?_; first | omega | (simp only [List.length_map, List.length_set, List.length_take] <;> omega)) | (simp -dsimp only [go_sem]; done) | fail) only [go_sem, ↓reduceIte, Nat.reduceEqDiff, Nat.reduceAdd, Nat.reduceSub, Nat.reduceMul, Nat.reduceLT, Nat.reduceLeDiff, reduceCtorEq, a_eq, a_neq, a_cast0, a_pred, a_app1, a_zero, Int.reduceToNat]
  refine callG' [4] (markRatS_c p1 (1 + (p0.sz : Nat)) s1 (by omega) (by omega)) (by decide) (by simp -dsimp (disch := first | assumption | (simp -dsimp only [go_sem]; done) | fail) only [go_sem]) (by simp -dsimp (disch := first | assumption | (simp -dsimp only [go_sem]; done) | fail) only [go_sem]) (by simp -dsimp only [go_sem, ↓reduceIte, Nat.reduceEqDiff, Nat.reduceAdd, Nat.reduceSub, Nat.reduceMul, Nat.reduceLT, Nat.reduceLeDiff, reduceCtorEq]) (by simp -dsimp only [go_sem, ↓reduceIte, Nat.reduceEqDiff, Nat.reduceAdd, Nat.reduceSub, Nat.reduceMul, Nat.reduceLT, Nat.reduceLeDiff, reduceCtorEq,  List.forall_mem_cons, List.not_mem_nil, false_implies, implies_true]) ?_
  simp -dsimp (disch := first | assumption | (refine OM.mk ?_; first | omega | (simp only [List.length_map, List.length_set, List.length_take] <;> omega)) | (simp -dsimp only [go_sem]; done) | fail) only [go_sem, ↓reduceIte, Nat.reduceEqDiff, Nat.reduceAdd, Nat.reduceSub, Nat.reduceMul, Nat.reduceLT, Nat.reduceLeDiff, reduceCtorEq, a_eq, a_neq, a_cast0, a_pred, a_app1, a_zero, Int.reduceToNat]
  refine callP (eqRatS_c .b .s flb fls w0 w0 hSw0) (by simp -dsimp (disch := first | assumption | (simp -dsimp only [go_sem]; done) | fail) only [go_sem]) ?_
  simp -dsimp (disch := first | assumption | (refine OM.mk ?_; first | omega | (simp only [List.length_map, List.length_set, List.length_take] <;> omega)) | (simp -dsimp only [go_sem]; done) | fail) only [go_sem, ↓reduceIte, Nat.reduceEqDiff, Nat.reduceAdd, Nat.reduceSub, Nat.reduceMul, Nat.reduceLT, Nat.reduceLeDiff, reduceCtorEq, a_eq, a_neq, a_cast0, a_pred, a_app1, a_zero, Int.reduceToNat,  bne_self_eq_false]
  refine callG' [5] (markRatS_c w0 (1) hSw0 (by omega) (by omega)) (by decide) (by simp -dsimp (disch := first | assumption | (simp -dsimp only [go_sem]; done) | fail) only [go_sem]) (by simp -dsimp (disch := first | assumption | (simp -dsimp only [go_sem]; done) | fail) only [go_sem]) (by simp -dsimp only [go_sem, ↓reduceIte, Nat.reduceEqDiff, Nat.reduceAdd, Nat.reduceSub, Nat.reduceMul, Nat.reduceLT, Nat.reduceLeDiff, reduceCtorEq]) (by simp -dsimp only [go_sem, ↓reduceIte, Nat.reduceEqDiff, Nat.reduceAdd, Nat.reduceSub, Nat.reduceMul, Nat.reduceLT, Nat.reduceLeDiff, reduceCtorEq,  List.forall_mem_cons, List.not_mem_nil, false_implies, implies_true]) ?_
  simp -dsimp (disch := first | assumption | (refine OM.mk ?_; first | omega | (simp only [List.length_map, List.length_set, List.length_take] <;> omega)) | (simp -dsimp only [go_sem]; done) | fail) only [go_sem, ↓reduceIte, Nat.reduceEqDiff, Nat.reduceAdd, Nat.reduceSub, Nat.reduceMul, Nat.reduceLT, Nat.reduceLeDiff, reduceCtorEq, a_eq, a_neq, a_cast0, a_pred, a_app1, a_zero, Int.reduceToNat]
  have hhw0 := heldRatS_m .b flb w0 (1) hSw0 (by omega) (by omega)
  refine callP hhw0 (by simp -dsimp (disch := first | assumption | (simp -dsimp only [go_sem]; done) | fail) only [go_sem]) ?_
  simp -dsimp (disch := first | assumption | (refine OM.mk ?_; first | omega | (simp only [List.length_map, List.length_set, List.length_take] <;> omega)) | (simp -dsimp only [go_sem]; done) | fail) only [go_sem, ↓reduceIte, Nat.reduceEqDiff, Nat.reduceAdd, Nat.reduceSub, Nat.reduceMul, Nat.reduceLT, Nat.reduceLeDiff, reduceCtorEq, a_eq, a_neq, a_cast0, a_pred, a_app1, a_zero, Int.reduceToNat]
  refine callP (toRat_c f hf p0 s0) (by simp -dsimp (disch := first | assumption | (simp -dsimp only [go_sem]; done) | fail) only [go_sem]) ?_
  simp -dsimp (disch := first | assumption | (refine OM.mk ?_; first | omega | (simp only [List.length_map, List.length_set, List.length_take] <;> omega)) | (simp -dsimp only [go_sem]; done) | fail) only [go_sem, ↓reduceIte, Nat.reduceEqDiff, Nat.reduceAdd, Nat.reduceSub, Nat.reduceMul, Nat.reduceLT, Nat.reduceLeDiff, reduceCtorEq, a_eq, a_neq, a_cast0, a_pred, a_app1, a_zero, Int.reduceToNat]
  refine callP (toRatS_c f hf p1 s1) (by simp -dsimp (disch := first | assumption | (simp -dsimp only [go_sem]; done) | fail) only [go_sem]) ?_
  simp -dsimp (disch := first | assumption | (refine OM.mk ?_; first | omega | (simp only [List.length_map, List.length_set, List.length_take] <;> omega)) | (simp -dsimp only [go_sem]; done) | fail) only [go_sem, ↓reduceIte, Nat.reduceEqDiff, Nat.reduceAdd, Nat.reduceSub, Nat.reduceMul, Nat.reduceLT, Nat.reduceLeDiff, reduceCtorEq, a_eq, a_neq, a_cast0, a_pred, a_app1, a_zero, Int.reduceToNat]
  refine callO' his (by simp -dsimp (disch := first | assumption | (simp -dsimp only [go_sem]; done) | fail) only [go_sem]) (by simp -dsimp only [go_sem, ↓reduceIte, Nat.reduceEqDiff, Nat.reduceAdd, Nat.reduceSub, Nat.reduceMul, Nat.reduceLT, Nat.reduceLeDiff, reduceCtorEq,  List.forall_mem_cons, List.not_mem_nil, false_implies, implies_true]) ?_
  simp -dsimp (disch := first | assumption | (refine OM.mk ?_; first | omega | (simp only [List.length_map, List.length_set, List.length_take] <;> omega)) | (simp -dsimp only [go_sem]; done) | fail) only [go_sem, ↓reduceIte, Nat.reduceEqDiff, Nat.reduceAdd, Nat.reduceSub, Nat.reduceMul, Nat.reduceLT, Nat.reduceLeDiff, reduceCtorEq, a_eq, a_neq, a_cast0, a_pred, a_app1, a_zero, Int.reduceToNat]
  refine callP (eqRatS_c .b .s flb fls w0 w0 hSw0) (by simp -dsimp (disch := first | assumption | (simp -dsimp only [go_sem]; done) | fail) only [go_sem]) ?_
  simp -dsimp (disch := first | assumption | (refine OM.mk ?_; first | omega | (simp only [List.length_map, List.length_set, List.length_take] <;> omega)) | (simp -dsimp only [go_sem]; done) | fail) only [go_sem, ↓reduceIte, Nat.reduceEqDiff, Nat.reduceAdd, Nat.reduceSub, Nat.reduceMul, Nat.reduceLT, Nat.reduceLeDiff, reduceCtorEq, a_eq, a_neq, a_cast0, a_pred, a_app1, a_zero, Int.reduceToNat,  bne_self_eq_false]
  refine callP hhw0 (by simp -dsimp (disch := first | assumption | (simp -dsimp only [go_sem]; done) | fail) only [go_sem]) ?_
  simp -dsimp (disch := first | assumption | (refine OM.mk ?_; first | omega | (simp only [List.length_map, List.length_set, List.length_take] <;> omega)) | (simp -dsimp only [go_sem]; done) | fail) only [go_sem, ↓reduceIte, Nat.reduceEqDiff, Nat.reduceAdd, Nat.reduceSub, Nat.reduceMul, Nat.reduceLT, Nat.reduceLeDiff, reduceCtorEq, a_eq, a_neq, a_cast0, a_pred, a_app1, a_zero, Int.reduceToNat]
end Go.Proofs.Ytekhgkpnhenecaa
