/- part of the proof -/
import Derived.Test.YtkllbcfhkhfniaaTXb
import Derived.Test.YtkllbcfhkhfniaaTLa4
namespace Go.Proofs.Ytkllbcfhkhfniaa
open Go Go.RowKit
set_option maxRecDepth 100000
set_option maxHeartbeats 4000000
set_option linter.unusedVariables false
set_option linter.unusedSimpArgs false
theorem paired_ok (f g : Fl) (hf : f ≠ .u) (hg : g ≠ .u) (op : FQ → FQ → FQ) (F : FuncId) (hop : ∀ x y, PC PP F [pQ .b x, pQ .b y] (pQ .s (op x y)) []) (a b : List RD) (ha : smallL a) (hb : smallL b) (k : pairB a b = true) (o : List FQ) (ho : o = List.zipWith op (a.map rdq) (b.map rdq)) :
    GC PP F_impl_paired [sR f a, sR g b, .fn (.func F) [] []] [] (.tup [.rsl 0 1 0 o.length, Bo true]) [⟨.own, T_p_impl_ratio, qs .s o⟩] := by
  have k' := k
  unfold pairB at k'
  simp only [Bool.and_eq_true, decide_eq_true_eq] at k'
  obtain ⟨⟨k1, k2⟩, k3⟩ := k'
  have q1 := loadVector_ok f hf a ha k1
  have q2 := loadVector_ok g hg b hb k2
  have h24 : a.length ≤ 24 := by unfold vokR at k1; simp at k1; exact k1.1
  have hlx : (a.map rdq).length = a.length := List.length_map _
  have hly : (b.map rdq).length = b.length := List.length_map _
  have hlo : o.length = a.length := by rw [ho, zip_len (by rw [hlx, hly, k3]), hlx]
  have hoi : ∀ i, i < a.length → o.getD i FQ.bad = op ((a.map rdq).getD i FQ.bad) ((b.map rdq).getD i FQ.bad) := fun i hi => by rw [ho]; exact zip_get (by omega) (by omega)
  rw [hlo]
  rw [← k3] at q2 hly
  generalize a.map rdq = x at *
  generalize b.map rdq = y at *
  clear ho
  refine txg W_impl_paired ke_impl_paired 0 [] [] [] rfl (by kernel_rfl) ?_
  simp -dsimp (disch := first | assumption | (refine OM.mk ?_; first | omega | (simp only [List.length_map, List.length_set, List.length_take] <;> omega)) | (simp -dsimp only [go_sem]; done) | fail) only [go_sem, ↓reduceIte, Nat.reduceEqDiff, Nat.reduceAdd, Nat.reduceSub, Nat.reduceMul, Nat.reduceLT, Nat.reduceLeDiff, reduceCtorEq, a_eq, a_neq, a_cast0, a_pred, a_app1, a_zero, Int.reduceToNat]
  refine callB' q1 (by simp [V.fl2, V.fl1, rdC]) (by simp -dsimp only [go_sem, ↓reduceIte, Nat.reduceEqDiff, Nat.reduceAdd, Nat.reduceSub, Nat.reduceMul, Nat.reduceLT, Nat.reduceLeDiff, reduceCtorEq,  List.forall_mem_cons, List.not_mem_nil, false_implies, implies_true]) ?_
  simp -dsimp (disch := first | assumption | (refine OM.mk ?_; first | omega | (simp only [List.length_map, List.length_set, List.length_take] <;> omega)) | (simp -dsimp only [go_sem]; done) | fail) only [go_sem, ↓reduceIte, Nat.reduceEqDiff, Nat.reduceAdd, Nat.reduceSub, Nat.reduceMul, Nat.reduceLT, Nat.reduceLeDiff, reduceCtorEq, a_eq, a_neq, a_cast0, a_pred, a_app1, a_zero, Int.reduceToNat]
  refine callB' q2 (by simp [V.fl2, V.fl1, rdC]) (by simp -dsimp only [go_sem, ↓reduceIte, Nat.reduceEqDiff, Nat.reduceAdd, Nat.reduceSub, Nat.reduceMul, Nat.reduceLT, Nat.reduceLeDiff, reduceCtorEq,  List.forall_mem_cons, List.not_mem_nil, false_implies, implies_true]) ?_
  simp -dsimp (disch := first | assumption | (refine OM.mk ?_; first | omega | (simp only [List.length_map, List.length_set, List.length_take] <;> omega)) | (simp -dsimp only [go_sem]; done) | fail) only [go_sem, ↓reduceIte, Nat.reduceEqDiff, Nat.reduceAdd, Nat.reduceSub, Nat.reduceMul, Nat.reduceLT, Nat.reduceLeDiff, reduceCtorEq, a_eq, a_neq, a_cast0, a_pred, a_app1, a_zero, Int.reduceToNat]
  rw [qs_nil (f := .s)]
  refine loopJ (fun k : Nat => k ≤ a.length) (fun k => ⟨[(2, .fn (.func F) [] []), (8, .rsl 0 1 0 a.length), (10, .rsl 1 1 0 a.length), (12, .rsl 2 1 0 a.length), (41, I a.length), (42, I k)], [⟨.own, T_p_impl_ratio, qs .b x⟩, ⟨.own, T_p_impl_ratio, qs .b y⟩, ⟨.own, T_p_impl_ratio, qs .s (fillQ o k)⟩]⟩) (fun k => a.length - k) 0 (by omega) ?_ ?_
  · refine StI.ren [some 0, some 1, some 2] [[], [], []] (by simp -dsimp only [go_sem, ↓reduceIte, Nat.reduceEqDiff, Nat.reduceAdd, Nat.reduceSub, Nat.reduceMul, Nat.reduceLT, Nat.reduceLeDiff, reduceCtorEq]) (by decide) ?_ (by simp -dsimp (disch := first | assumption | (refine OM.mk ?_; first | omega | (simp only [List.length_map, List.length_set, List.length_take] <;> omega)) | (simp -dsimp only [go_sem]; done) | fail) only [go_sem, ↓reduceIte, Nat.reduceEqDiff, Nat.reduceAdd, Nat.reduceSub, Nat.reduceMul, Nat.reduceLT, Nat.reduceLeDiff, reduceCtorEq, a_eq, a_neq, a_cast0, a_pred, a_app1, a_zero, Int.reduceToNat])
    rw [fillQ_zero, hlo]
    simp -dsimp (disch := first | assumption | (refine OM.mk ?_; first | omega | (simp only [List.length_map, List.length_set, List.length_take] <;> omega)) | (simp -dsimp only [go_sem]; done) | fail) only [go_sem, ↓reduceIte, Nat.reduceEqDiff, Nat.reduceAdd, Nat.reduceSub, Nat.reduceMul, Nat.reduceLT, Nat.reduceLeDiff, reduceCtorEq, a_eq, a_neq, a_cast0, a_pred, a_app1, a_zero, Int.reduceToNat]
  intro k hk
  by_cases h : k < a.length
  · have e2 : (fillQ o k).length = a.length := by simp [fillQ]; omega
    simp -dsimp (disch := first | assumption | (refine OM.mk ?_; first | omega | (simp only [List.length_map, List.length_set, List.length_take] <;> omega)) | (simp -dsimp only [go_sem]; done) | fail) only [go_sem, ↓reduceIte, Nat.reduceEqDiff, Nat.reduceAdd, Nat.reduceSub, Nat.reduceMul, Nat.reduceLT, Nat.reduceLeDiff, reduceCtorEq, a_eq, a_neq, a_cast0, a_pred, a_app1, a_zero, Int.reduceToNat]
    refine callP (hop (x.getD k FQ.bad) (y.getD k FQ.bad)) (by simp -dsimp (disch := first | assumption | (simp -dsimp only [go_sem]; done) | fail) only [go_sem]) ?_
    rw [← hoi k h]
    simp -dsimp (disch := first | assumption | (refine OM.mk ?_; first | omega | (simp only [List.length_map, List.length_set, List.length_take] <;> omega)) | (simp -dsimp only [go_sem]; done) | fail) only [go_sem, ↓reduceIte, Nat.reduceEqDiff, Nat.reduceAdd, Nat.reduceSub, Nat.reduceMul, Nat.reduceLT, Nat.reduceLeDiff, reduceCtorEq, a_eq, a_neq, a_cast0, a_pred, a_app1, a_zero, Int.reduceToNat]
    refine ⟨k + 1, by omega, by omega, StI.ren [some 0, some 1, some 2] [[], [], []] (by simp -dsimp only [go_sem, ↓reduceIte, Nat.reduceEqDiff, Nat.reduceAdd, Nat.reduceSub, Nat.reduceMul, Nat.reduceLT, Nat.reduceLeDiff, reduceCtorEq]) (by decide) ?_ (by simp -dsimp (disch := first | assumption | (refine OM.mk ?_; first | omega | (simp only [List.length_map, List.length_set, List.length_take] <;> omega)) | (simp -dsimp only [go_sem]; done) | fail) only [go_sem, ↓reduceIte, Nat.reduceEqDiff, Nat.reduceAdd, Nat.reduceSub, Nat.reduceMul, Nat.reduceLT, Nat.reduceLeDiff, reduceCtorEq, a_eq, a_neq, a_cast0, a_pred, a_app1, a_zero, Int.reduceToNat])⟩
    rw [fillQ_set (by omega) rfl]
    simp -dsimp (disch := first | assumption | (refine OM.mk ?_; first | omega | (simp only [List.length_map, List.length_set, List.length_take] <;> omega)) | (simp -dsimp only [go_sem]; done) | fail) only [go_sem, ↓reduceIte, Nat.reduceEqDiff, Nat.reduceAdd, Nat.reduceSub, Nat.reduceMul, Nat.reduceLT, Nat.reduceLeDiff, reduceCtorEq, a_eq, a_neq, a_cast0, a_pred, a_app1, a_zero, Int.reduceToNat]
  · obtain rfl : k = a.length := by omega
    have e1 := fillQ_full (l := o)
    rw [hlo] at e1
    rw [e1]
    simp -dsimp (disch := first | assumption | (refine OM.mk ?_; first | omega | (simp only [List.length_map, List.length_set, List.length_take] <;> omega)) | (simp -dsimp only [go_sem]; done) | fail) only [go_sem, ↓reduceIte, Nat.reduceEqDiff, Nat.reduceAdd, Nat.reduceSub, Nat.reduceMul, Nat.reduceLT, Nat.reduceLeDiff, reduceCtorEq, a_eq, a_neq, a_cast0, a_pred, a_app1, a_zero, Int.reduceToNat]
    exact RtG.nothing [some 2] (by simp -dsimp only [go_sem, ↓reduceIte, Nat.reduceEqDiff, Nat.reduceAdd, Nat.reduceSub, Nat.reduceMul, Nat.reduceLT, Nat.reduceLeDiff, reduceCtorEq]) (by decide) (by simp -dsimp (disch := first | assumption | (refine OM.mk ?_; first | omega | (simp only [List.length_map, List.length_set, List.length_take] <;> omega)) | (simp -dsimp only [go_sem]; done) | fail) only [go_sem, ↓reduceIte, Nat.reduceEqDiff, Nat.reduceAdd, Nat.reduceSub, Nat.reduceMul, Nat.reduceLT, Nat.reduceLeDiff, reduceCtorEq, a_eq, a_neq, a_cast0, a_pred, a_app1, a_zero, Int.reduceToNat,  List.map_cons, List.map_nil]) (by simp -dsimp (disch := first | assumption | (refine OM.mk ?_; first | omega | (simp only [List.length_map, List.length_set, List.length_take] <;> omega)) | (simp -dsimp only [go_sem]; done) | fail) only [go_sem, ↓reduceIte, Nat.reduceEqDiff, Nat.reduceAdd, Nat.reduceSub, Nat.reduceMul, Nat.reduceLT, Nat.reduceLeDiff, reduceCtorEq, a_eq, a_neq, a_cast0, a_pred, a_app1, a_zero, Int.reduceToNat])
theorem paired_no (f g : Fl) (hf : f ≠ .u) (hg : g ≠ .u) (F : FuncId) (a b : List RD) (ha : smallL a) (hb : smallL b) (k : pairB a b = false) :
    GC PP F_impl_paired [sR f a, sR g b, .fn (.func F) [] []] [] (.tup [.emp, Bo false]) [] := by
  refine txg W_impl_paired ke_impl_paired 0 [] [] [] rfl (by kernel_rfl) ?_
  simp -dsimp (disch := first | assumption | (refine OM.mk ?_; first | omega | (simp only [List.length_map, List.length_set, List.length_take] <;> omega)) | (simp -dsimp only [go_sem]; done) | fail) only [go_sem, ↓reduceIte, Nat.reduceEqDiff, Nat.reduceAdd, Nat.reduceSub, Nat.reduceMul, Nat.reduceLT, Nat.reduceLeDiff, reduceCtorEq, a_eq, a_neq, a_cast0, a_pred, a_app1, a_zero, Int.reduceToNat]
  cases k1 : vokR a
  · refine callB' (loadVector_no f hf a ha k1) (by simp [V.fl2, V.fl1, rdC]) (by simp -dsimp only [go_sem, ↓reduceIte, Nat.reduceEqDiff, Nat.reduceAdd, Nat.reduceSub, Nat.reduceMul, Nat.reduceLT, Nat.reduceLeDiff, reduceCtorEq,  List.forall_mem_cons, List.not_mem_nil, false_implies, implies_true]) ?_
    simp -dsimp (disch := first | assumption | (refine OM.mk ?_; first | omega | (simp only [List.length_map, List.length_set, List.length_take] <;> omega)) | (simp -dsimp only [go_sem]; done) | fail) only [go_sem, ↓reduceIte, Nat.reduceEqDiff, Nat.reduceAdd, Nat.reduceSub, Nat.reduceMul, Nat.reduceLT, Nat.reduceLeDiff, reduceCtorEq, a_eq, a_neq, a_cast0, a_pred, a_app1, a_zero, Int.reduceToNat]
    cases k2 : vokR b
    · refine callB' (loadVector_no g hg b hb k2) (by simp [V.fl2, V.fl1, rdC]) (by simp -dsimp only [go_sem, ↓reduceIte, Nat.reduceEqDiff, Nat.reduceAdd, Nat.reduceSub, Nat.reduceMul, Nat.reduceLT, Nat.reduceLeDiff, reduceCtorEq,  List.forall_mem_cons, List.not_mem_nil, false_implies, implies_true]) ?_
      simp -dsimp (disch := first | assumption | (refine OM.mk ?_; first | omega | (simp only [List.length_map, List.length_set, List.length_take] <;> omega)) | (simp -dsimp only [go_sem]; done) | fail) only [go_sem, ↓reduceIte, Nat.reduceEqDiff, Nat.reduceAdd, Nat.reduceSub, Nat.reduceMul, Nat.reduceLT, Nat.reduceLeDiff, reduceCtorEq, a_eq, a_neq, a_cast0, a_pred, a_app1, a_zero, Int.reduceToNat]
      exact RtG.nothing [] trivial (by decide) trivial (by simp -dsimp (disch := first | assumption | (refine OM.mk ?_; first | omega | (simp only [List.length_map, List.length_set, List.length_take] <;> omega)) | (simp -dsimp only [go_sem]; done) | fail) only [go_sem, ↓reduceIte, Nat.reduceEqDiff, Nat.reduceAdd, Nat.reduceSub, Nat.reduceMul, Nat.reduceLT, Nat.reduceLeDiff, reduceCtorEq, a_eq, a_neq, a_cast0, a_pred, a_app1, a_zero, Int.reduceToNat])
    · refine callB' (loadVector_ok g hg b hb k2) (by simp [V.fl2, V.fl1, rdC]) (by simp -dsimp only [go_sem, ↓reduceIte, Nat.reduceEqDiff, Nat.reduceAdd, Nat.reduceSub, Nat.reduceMul, Nat.reduceLT, Nat.reduceLeDiff, reduceCtorEq,  List.forall_mem_cons, List.not_mem_nil, false_implies, implies_true]) ?_
      simp -dsimp (disch := first | assumption | (refine OM.mk ?_; first | omega | (simp only [List.length_map, List.length_set, List.length_take] <;> omega)) | (simp -dsimp only [go_sem]; done) | fail) only [go_sem, ↓reduceIte, Nat.reduceEqDiff, Nat.reduceAdd, Nat.reduceSub, Nat.reduceMul, Nat.reduceLT, Nat.reduceLeDiff, reduceCtorEq, a_eq, a_neq, a_cast0, a_pred, a_app1, a_zero, Int.reduceToNat]
      exact RtG.nothing [] trivial (by decide) trivial (by simp -dsimp (disch := first | assumption | (refine OM.mk ?_; first | omega | (simp only [List.length_map, List.length_set, List.length_take] <;> omega)) | (simp -dsimp only [go_sem]; done) | fail) only [go_sem, ↓reduceIte, Nat.reduceEqDiff, Nat.reduceAdd, Nat.reduceSub, Nat.reduceMul, Nat.reduceLT, Nat.reduceLeDiff, reduceCtorEq, a_eq, a_neq, a_cast0, a_pred, a_app1, a_zero, Int.reduceToNat])
  · refine callB' (loadVector_ok f hf a ha k1) (by simp [V.fl2, V.fl1, rdC]) (by simp -dsimp only [go_sem, ↓reduceIte, Nat.reduceEqDiff, Nat.reduceAdd, Nat.reduceSub, Nat.reduceMul, Nat.reduceLT, Nat.reduceLeDiff, reduceCtorEq,  List.forall_mem_cons, List.not_mem_nil, false_implies, implies_true]) ?_
    simp -dsimp (disch := first | assumption | (refine OM.mk ?_; first | omega | (simp only [List.length_map, List.length_set, List.length_take] <;> omega)) | (simp -dsimp only [go_sem]; done) | fail) only [go_sem, ↓reduceIte, Nat.reduceEqDiff, Nat.reduceAdd, Nat.reduceSub, Nat.reduceMul, Nat.reduceLT, Nat.reduceLeDiff, reduceCtorEq, a_eq, a_neq, a_cast0, a_pred, a_app1, a_zero, Int.reduceToNat]
    cases k2 : vokR b
    · refine callB' (loadVector_no g hg b hb k2) (by simp [V.fl2, V.fl1, rdC]) (by simp -dsimp only [go_sem, ↓reduceIte, Nat.reduceEqDiff, Nat.reduceAdd, Nat.reduceSub, Nat.reduceMul, Nat.reduceLT, Nat.reduceLeDiff, reduceCtorEq,  List.forall_mem_cons, List.not_mem_nil, false_implies, implies_true]) ?_
      simp -dsimp (disch := first | assumption | (refine OM.mk ?_; first | omega | (simp only [List.length_map, List.length_set, List.length_take] <;> omega)) | (simp -dsimp only [go_sem]; done) | fail) only [go_sem, ↓reduceIte, Nat.reduceEqDiff, Nat.reduceAdd, Nat.reduceSub, Nat.reduceMul, Nat.reduceLT, Nat.reduceLeDiff, reduceCtorEq, a_eq, a_neq, a_cast0, a_pred, a_app1, a_zero, Int.reduceToNat]
      exact RtG.nothing [] trivial (by decide) trivial (by simp -dsimp (disch := first | assumption | (refine OM.mk ?_; first | omega | (simp only [List.length_map, List.length_set, List.length_take] <;> omega)) | (simp -dsimp only [go_sem]; done) | fail) only [go_sem, ↓reduceIte, Nat.reduceEqDiff, Nat.reduceAdd, Nat.reduceSub, Nat.reduceMul, Nat.reduceLT, Nat.reduceLeDiff, reduceCtorEq, a_eq, a_neq, a_cast0, a_pred, a_app1, a_zero, Int.reduceToNat])
    · refine callB' (loadVector_ok g hg b hb k2) (by simp [V.fl2, V.fl1, rdC]) (by simp -dsimp only [go_sem, ↓reduceIte, Nat.reduceEqDiff, Nat.reduceAdd, Nat.reduceSub, Nat.reduceMul, Nat.reduceLT, Nat.reduceLeDiff, reduceCtorEq,  List.forall_mem_cons, List.not_mem_nil, false_implies, implies_true]) ?_
      have hn : ¬ a.length = b.length := by
        intro e
        unfold pairB at k
        rw [k1, k2, e] at k
        simp at k
      have h24 : a.length ≤ 24 := vokR_len k1
      have h24' : b.length ≤ 24 := vokR_len k2
      simp -dsimp (disch := first | assumption | (refine OM.mk ?_; first | omega | (simp only [List.length_map, List.length_set, List.length_take] <;> omega)) | (simp -dsimp only [go_sem]; done) | fail) only [go_sem, ↓reduceIte, Nat.reduceEqDiff, Nat.reduceAdd, Nat.reduceSub, Nat.reduceMul, Nat.reduceLT, Nat.reduceLeDiff, reduceCtorEq, a_eq, a_neq, a_cast0, a_pred, a_app1, a_zero, Int.reduceToNat,  hn]
      exact RtG.nothing [] trivial (by decide) trivial (by simp -dsimp (disch := first | assumption | (refine OM.mk ?_; first | omega | (simp only [List.length_map, List.length_set, List.length_take] <;> omega)) | (simp -dsimp only [go_sem]; done) | fail) only [go_sem, ↓reduceIte, Nat.reduceEqDiff, Nat.reduceAdd, Nat.reduceSub, Nat.reduceMul, Nat.reduceLT, Nat.reduceLeDiff, reduceCtorEq, a_eq, a_neq, a_cast0, a_pred, a_app1, a_zero, Int.reduceToNat])
theorem impl_AddVectors_g (f g : Fl) (hf : f ≠ .u) (hg : g ≠ .u) (a b : List RD) (ha : smallL a) (hb : smallL b) : GC PP F_impl_AddVectors [sR f a, sR g b] [] (vsG (pairQ FQ.add a b)) (vsH (pairQ FQ.add a b)) := by
  unfold pairQ
  cases k : pairB a b
  · rw [if_neg (by simp)]
    refine txg W_impl_AddVectors ke_impl_AddVectors 0 [] [] [] rfl (by kernel_rfl) ?_
    simp -dsimp (disch := first | assumption | (refine OM.mk ?_; first | omega | (simp only [List.length_map, List.length_set, List.length_take] <;> omega)) | (simp -dsimp only [go_sem]; done) | fail) only [go_sem, ↓reduceIte, Nat.reduceEqDiff, Nat.reduceAdd, Nat.reduceSub, Nat.reduceMul, Nat.reduceLT, Nat.reduceLeDiff, reduceCtorEq, a_eq, a_neq, a_cast0, a_pred, a_app1, a_zero, Int.reduceToNat]
    refine callO' (paired_no f g hf hg F_impl_add a b ha hb k) (by simp -dsimp (disch := first | assumption | (simp -dsimp only [go_sem]; done) | fail) only [go_sem]) (by simp -dsimp only [go_sem, ↓reduceIte, Nat.reduceEqDiff, Nat.reduceAdd, Nat.reduceSub, Nat.reduceMul, Nat.reduceLT, Nat.reduceLeDiff, reduceCtorEq,  List.forall_mem_cons, List.not_mem_nil, false_implies, implies_true]) ?_
    simp -dsimp (disch := first | assumption | (refine OM.mk ?_; first | omega | (simp only [List.length_map, List.length_set, List.length_take] <;> omega)) | (simp -dsimp only [go_sem]; done) | fail) only [go_sem, ↓reduceIte, Nat.reduceEqDiff, Nat.reduceAdd, Nat.reduceSub, Nat.reduceMul, Nat.reduceLT, Nat.reduceLeDiff, reduceCtorEq, a_eq, a_neq, a_cast0, a_pred, a_app1, a_zero, Int.reduceToNat]
    exact rtG_noV
  · rw [if_pos rfl]
    obtain ⟨x, y, rfl, rfl, e, h24, gx, gy, ex, ey⟩ := pairB_some k
    have q := paired_ok f g hf hg FQ.add F_impl_add (add_c .b .b flb flb) _ _ ha hb k _ rfl
    rw [ex, ey] at q ⊢
    have hl := zip_len (op := FQ.add) e
    generalize List.zipWith FQ.add x y = o at *
    refine txg W_impl_AddVectors ke_impl_AddVectors 0 [] [] [] rfl (by kernel_rfl) ?_
    simp -dsimp (disch := first | assumption | (refine OM.mk ?_; first | omega | (simp only [List.length_map, List.length_set, List.length_take] <;> omega)) | (simp -dsimp only [go_sem]; done) | fail) only [go_sem, ↓reduceIte, Nat.reduceEqDiff, Nat.reduceAdd, Nat.reduceSub, Nat.reduceMul, Nat.reduceLT, Nat.reduceLeDiff, reduceCtorEq, a_eq, a_neq, a_cast0, a_pred, a_app1, a_zero, Int.reduceToNat]
    refine callO' q (by simp -dsimp (disch := first | assumption | (simp -dsimp only [go_sem]; done) | fail) only [go_sem]) (by simp -dsimp only [go_sem, ↓reduceIte, Nat.reduceEqDiff, Nat.reduceAdd, Nat.reduceSub, Nat.reduceMul, Nat.reduceLT, Nat.reduceLeDiff, reduceCtorEq,  List.forall_mem_cons, List.not_mem_nil, false_implies, implies_true]) ?_
    simp -dsimp (disch := first | assumption | (refine OM.mk ?_; first | omega | (simp only [List.length_map, List.length_set, List.length_take] <;> omega)) | (simp -dsimp only [go_sem]; done) | fail) only [go_sem, ↓reduceIte, Nat.reduceEqDiff, Nat.reduceAdd, Nat.reduceSub, Nat.reduceMul, Nat.reduceLT, Nat.reduceLeDiff, reduceCtorEq, a_eq, a_neq, a_cast0, a_pred, a_app1, a_zero, Int.reduceToNat]
    refine callO' (stores_g .b .s flb fls o (by omega)) (by simp -dsimp (disch := first | assumption | (refine OM.mk ?_; first | omega | (simp only [List.length_map, List.length_set, List.length_take] <;> omega)) | (simp -dsimp only [go_sem]; done) | fail) only [go_sem, ↓reduceIte, Nat.reduceEqDiff, Nat.reduceAdd, Nat.reduceSub, Nat.reduceMul, Nat.reduceLT, Nat.reduceLeDiff, reduceCtorEq, a_eq, a_neq, a_cast0, a_pred, a_app1, a_zero, Int.reduceToNat]) (by simp -dsimp only [go_sem, ↓reduceIte, Nat.reduceEqDiff, Nat.reduceAdd, Nat.reduceSub, Nat.reduceMul, Nat.reduceLT, Nat.reduceLeDiff, reduceCtorEq,  List.forall_mem_cons, List.not_mem_nil, false_implies, implies_true]) ?_
    simp -dsimp (disch := first | assumption | (refine OM.mk ?_; first | omega | (simp only [List.length_map, List.length_set, List.length_take] <;> omega)) | (simp -dsimp only [go_sem]; done) | fail) only [go_sem, ↓reduceIte, Nat.reduceEqDiff, Nat.reduceAdd, Nat.reduceSub, Nat.reduceMul, Nat.reduceLT, Nat.reduceLeDiff, reduceCtorEq, a_eq, a_neq, a_cast0, a_pred, a_app1, a_zero, Int.reduceToNat]
    exact RtG.nothing [some 1] (by simp -dsimp only [go_sem, ↓reduceIte, Nat.reduceEqDiff, Nat.reduceAdd, Nat.reduceSub, Nat.reduceMul, Nat.reduceLT, Nat.reduceLeDiff, reduceCtorEq]) (by decide) (by simp -dsimp (disch := first | assumption | (refine OM.mk ?_; first | omega | (simp only [List.length_map, List.length_set, List.length_take] <;> omega)) | (simp -dsimp only [go_sem]; done) | fail) only [go_sem, ↓reduceIte, Nat.reduceEqDiff, Nat.reduceAdd, Nat.reduceSub, Nat.reduceMul, Nat.reduceLT, Nat.reduceLeDiff, reduceCtorEq, a_eq, a_neq, a_cast0, a_pred, a_app1, a_zero, Int.reduceToNat,  List.map_cons, List.map_nil]) (by simp -dsimp (disch := first | assumption | (refine OM.mk ?_; first | omega | (simp only [List.length_map, List.length_set, List.length_take] <;> omega)) | (simp -dsimp only [go_sem]; done) | fail) only [go_sem, ↓reduceIte, Nat.reduceEqDiff, Nat.reduceAdd, Nat.reduceSub, Nat.reduceMul, Nat.reduceLT, Nat.reduceLeDiff, reduceCtorEq, a_eq, a_neq, a_cast0, a_pred, a_app1, a_zero, Int.reduceToNat])
theorem impl_SubtractVectors_g (f g : Fl) (hf : f ≠ .u) (hg : g ≠ .u) (a b : List RD) (ha : smallL a) (hb : smallL b) : GC PP F_impl_SubtractVectors [sR f a, sR g b] [] (vsG (pairQ FQ.sub a b)) (vsH (pairQ FQ.sub a b)) := by
  unfold pairQ
  cases k : pairB a b
  · rw [if_neg (by simp)]
    refine txg W_impl_SubtractVectors ke_impl_SubtractVectors 0 [] [] [] rfl (by kernel_rfl) ?_
    simp -dsimp (disch := first | assumption | (refine OM.mk ?_; first | omega | (simp only [List.length_map, List.length_set, List.length_take] <;> omega)) | (simp -dsimp only [go_sem]; done) | fail) only [go_sem, ↓reduceIte, Nat.reduceEqDiff, Nat.reduceAdd, Nat.reduceSub, Nat.reduceMul, Nat.reduceLT, Nat.reduceLeDiff, reduceCtorEq, a_eq, a_neq, a_cast0, a_pred, a_app1, a_zero, Int.reduceToNat]
    refine callO' (paired_no f g hf hg F_impl_sub a b ha hb k) (by simp -dsimp (disch := first | assumption | (simp -dsimp only [go_sem]; done) | fail) only [go_sem]) (by simp -dsimp only [go_sem, ↓reduceIte, Nat.reduceEqDiff, Nat.reduceAdd, Nat.reduceSub, Nat.reduceMul, Nat.reduceLT, Nat.reduceLeDiff, reduceCtorEq,  List.forall_mem_cons, List.not_mem_nil, false_implies, implies_true]) ?_
    simp -dsimp (disch := first | assumption | (refine OM.mk ?_; first | omega | (simp only [List.length_map, List.length_set, List.length_take] <;> omega)) | (simp -dsimp only [go_sem]; done) | fail) only [go_sem, ↓reduceIte, Nat.reduceEqDiff, Nat.reduceAdd, Nat.reduceSub, Nat.reduceMul, Nat.reduceLT, Nat.reduceLeDiff, reduceCtorEq, a_eq, a_neq, a_cast0, a_pred, a_app1, a_zero, Int.reduceToNat]
    exact rtG_noV
  · rw [if_pos rfl]
    obtain ⟨x, y, rfl, rfl, e, h24, gx, gy, ex, ey⟩ := pairB_some k
    have q := paired_ok f g hf hg FQ.sub F_impl_sub (sub_c .b .b flb flb) _ _ ha hb k _ rfl
    rw [ex, ey] at q ⊢
    have hl := zip_len (op := FQ.sub) e
    generalize List.zipWith FQ.sub x y = o at *
    refine txg W_impl_SubtractVectors ke_impl_SubtractVectors 0 [] [] [] rfl (by kernel_rfl) ?_
    simp -dsimp (disch := first | assumption | (refine OM.mk ?_; first | omega | (simp only [List.length_map, List.length_set, List.length_take] <;> omega)) | (simp -dsimp only [go_sem]; done) | fail) only [go_sem, ↓reduceIte, Nat.reduceEqDiff, Nat.reduceAdd, Nat.reduceSub, Nat.reduceMul, Nat.reduceLT, Nat.reduceLeDiff, reduceCtorEq, a_eq, a_neq, a_cast0, a_pred, a_app1, a_zero, Int.reduceToNat]
    refine callO' q (by simp -dsimp (disch := first | assumption | (simp -dsimp only [go_sem]; done) | fail) only [go_sem]) (by simp -dsimp only [go_sem, ↓reduceIte, Nat.reduceEqDiff, Nat.reduceAdd, Nat.reduceSub, Nat.reduceMul, Nat.reduceLT, Nat.reduceLeDiff, reduceCtorEq,  List.forall_mem_cons, List.not_mem_nil, false_implies, implies_true]) ?_
    simp -dsimp (disch := first | assumption | (refine OM.mk ?_; first | omega | (simp only [List.length_map, List.length_set, List.length_take] <;> omega)) | (simp -dsimp only [go_sem]; done) | fail) only [go_sem, ↓reduceIte, Nat.reduceEqDiff, Nat.reduceAdd, Nat.reduceSub, Nat.reduceMul, Nat.reduceLT, Nat.reduceLeDiff, reduceCtorEq, a_eq, a_neq, a_cast0, a_pred, a_app1, a_zero, Int.reduceToNat]
    refine callO' (stores_g .b .s flb fls o (by omega)) (by simp -dsimp (disch := first | assumption | (refine OM.mk ?_; first | omega | (simp only [List.length_map, List.length_set, List.length_take] <;> omega)) | (simp -dsimp only [go_sem]; done) | fail) only [go_sem, ↓reduceIte, Nat.reduceEqDiff, Nat.reduceAdd, Nat.reduceSub, Nat.reduceMul, Nat.reduceLT, Nat.reduceLeDiff, reduceCtorEq, a_eq, a_neq, a_cast0, a_pred, a_app1, a_zero, Int.reduceToNat]) (by simp -dsimp only [go_sem, ↓reduceIte, Nat.reduceEqDiff, Nat.reduceAdd, Nat.reduceSub, Nat.reduceMul, Nat.reduceLT, Nat.reduceLeDiff, reduceCtorEq,  List.forall_mem_cons, List.not_mem_nil, false_implies, implies_true]) ?_
    simp -dsimp (disch := first | assumption | (refine OM.mk ?_; first | omega | (simp only [List.length_map, List.length_set, List.length_take] <;> omega)) | (simp -dsimp only [go_sem]; done) | fail) only [go_sem, ↓reduceIte, Nat.reduceEqDiff, Nat.reduceAdd, Nat.reduceSub, Nat.reduceMul, Nat.reduceLT, Nat.reduceLeDiff, reduceCtorEq, a_eq, a_neq, a_cast0, a_pred, a_app1, a_zero, Int.reduceToNat]
    exact RtG.nothing [some 1] (by simp -dsimp only [go_sem, ↓reduceIte, Nat.reduceEqDiff, Nat.reduceAdd, Nat.reduceSub, Nat.reduceMul, Nat.reduceLT, Nat.reduceLeDiff, reduceCtorEq]) (by decide) (by simp -dsimp (disch := first | assumption | (refine OM.mk ?_; first | omega | (simp only [List.length_map, List.length_set, List.length_take] <;> omega)) | (simp -dsimp only [go_sem]; done) | fail) only [go_sem, ↓reduceIte, Nat.reduceEqDiff, Nat.reduceAdd, Nat.reduceSub, Nat.reduceMul, Nat.reduceLT, Nat.reduceLeDiff, reduceCtorEq, a_eq, a_neq, a_cast0, a_pred, a_app1, a_zero, Int.reduceToNat,  List.map_cons, List.map_nil]) (by simp -dsimp (disch := first | assumption | (refine OM.mk ?_; first | omega | (simp only [List.length_map, List.length_set, List.length_take] <;> omega)) | (simp -dsimp only [go_sem]; done) | fail) only [go_sem, ↓reduceIte, Nat.reduceEqDiff, Nat.reduceAdd, Nat.reduceSub, Nat.reduceMul, Nat.reduceLT, Nat.reduceLeDiff, reduceCtorEq, a_eq, a_neq, a_cast0, a_pred, a_app1, a_zero, Int.reduceToNat])
theorem inner_c (f g p q : Fl) (hf : f ≠ .u) (hg : g ≠ .u) (hp : p ≠ .u) (hq : q ≠ .u) (x y : List FQ) (e : x.length = y.length) (hl : x.length ≤ 1000000) :
    PC PP F_impl_inner [sQ f p x, sQ g q y] (pQ .s (sumQ (fun i => (x.getD i FQ.bad).mul (y.getD i FQ.bad)) x.length)) [] := by
  refine tx W_impl_inner ke_impl_inner [] (by kernel_rfl) ?_
  simp -dsimp (disch := first | assumption | (refine OM.mk ?_; first | omega | (simp only [List.length_map, List.length_set, List.length_take] <;> omega)) | (simp -dsimp only [go_sem]; done) | fail) only [go_sem, ↓reduceIte, Nat.reduceEqDiff, Nat.reduceAdd, Nat.reduceSub, Nat.reduceMul, Nat.reduceLT, Nat.reduceLeDiff, reduceCtorEq, a_eq, a_neq, a_cast0, a_pred, a_app1, a_zero, Int.reduceToNat]
  refine callP (whole_c 0 (by omega)) (by simp -dsimp (disch := first | assumption | (simp -dsimp only [go_sem]; done) | fail) only [go_sem]) ?_
  simp -dsimp (disch := first | assumption | (refine OM.mk ?_; first | omega | (simp only [List.length_map, List.length_set, List.length_take] <;> omega)) | (simp -dsimp only [go_sem]; done) | fail) only [go_sem, ↓reduceIte, Nat.reduceEqDiff, Nat.reduceAdd, Nat.reduceSub, Nat.reduceMul, Nat.reduceLT, Nat.reduceLeDiff, reduceCtorEq, a_eq, a_neq, a_cast0, a_pred, a_app1, a_zero, Int.reduceToNat]
  refine loopI (fun k : Nat => k ≤ x.length) (fun k => ⟨[(0, sQ f p x), (1, sQ g q y), (5, pQ .s (sumQ (fun i => (x.getD i FQ.bad).mul (y.getD i FQ.bad)) k)), (9, I x.length), (10, I k)], []⟩) (fun k => x.length - k) 0 (by omega) ?_ ?_
  · simp -dsimp (disch := first | assumption | (refine OM.mk ?_; first | omega | (simp only [List.length_map, List.length_set, List.length_take] <;> omega)) | (simp -dsimp only [go_sem]; done) | fail) only [go_sem, ↓reduceIte, Nat.reduceEqDiff, Nat.reduceAdd, Nat.reduceSub, Nat.reduceMul, Nat.reduceLT, Nat.reduceLeDiff, reduceCtorEq, a_eq, a_neq, a_cast0, a_pred, a_app1, a_zero, Int.reduceToNat]
    exact of_eq_true vk_pQ
  intro k hk
  by_cases h : k < x.length
  · have hs : sumQ (fun i => (x.getD i FQ.bad).mul (y.getD i FQ.bad)) (k + 1) = (sumQ (fun i => (x.getD i FQ.bad).mul (y.getD i FQ.bad)) k).add ((x.getD k FQ.bad).mul (y.getD k FQ.bad)) := rfl
    generalize hS' : sumQ (fun i => (x.getD i FQ.bad).mul (y.getD i FQ.bad)) (k + 1) = S' at *
    generalize sumQ (fun i => (x.getD i FQ.bad).mul (y.getD i FQ.bad)) k = S at *
    simp -dsimp (disch := first | assumption | (refine OM.mk ?_; first | omega | (simp only [List.length_map, List.length_set, List.length_take] <;> omega)) | (simp -dsimp only [go_sem]; done) | fail) only [go_sem, ↓reduceIte, Nat.reduceEqDiff, Nat.reduceAdd, Nat.reduceSub, Nat.reduceMul, Nat.reduceLT, Nat.reduceLeDiff, reduceCtorEq, a_eq, a_neq, a_cast0, a_pred, a_app1, a_zero, Int.reduceToNat]
    refine callP (mul_c p q hp hq (x.getD k FQ.bad) (y.getD k FQ.bad)) (by simp -dsimp (disch := first | assumption | (simp -dsimp only [go_sem]; done) | fail) only [go_sem]) ?_
    simp -dsimp (disch := first | assumption | (refine OM.mk ?_; first | omega | (simp only [List.length_map, List.length_set, List.length_take] <;> omega)) | (simp -dsimp only [go_sem]; done) | fail) only [go_sem, ↓reduceIte, Nat.reduceEqDiff, Nat.reduceAdd, Nat.reduceSub, Nat.reduceMul, Nat.reduceLT, Nat.reduceLeDiff, reduceCtorEq, a_eq, a_neq, a_cast0, a_pred, a_app1, a_zero, Int.reduceToNat]
    refine callP (add_c .s .s fls fls S ((x.getD k FQ.bad).mul (y.getD k FQ.bad))) (by simp -dsimp (disch := first | assumption | (simp -dsimp only [go_sem]; done) | fail) only [go_sem]) ?_
    rw [← hs]
    simp -dsimp (disch := first | assumption | (refine OM.mk ?_; first | omega | (simp only [List.length_map, List.length_set, List.length_take] <;> omega)) | (simp -dsimp only [go_sem]; done) | fail) only [go_sem, ↓reduceIte, Nat.reduceEqDiff, Nat.reduceAdd, Nat.reduceSub, Nat.reduceMul, Nat.reduceLT, Nat.reduceLeDiff, reduceCtorEq, a_eq, a_neq, a_cast0, a_pred, a_app1, a_zero, Int.reduceToNat]
    exact ⟨k + 1, by omega, by omega, by rw [hS']; exact of_eq_true vk_pQ, rfl⟩
  · obtain rfl : k = x.length := by omega
    simp -dsimp (disch := first | assumption | (refine OM.mk ?_; first | omega | (simp only [List.length_map, List.length_set, List.length_take] <;> omega)) | (simp -dsimp only [go_sem]; done) | fail) only [go_sem, ↓reduceIte, Nat.reduceEqDiff, Nat.reduceAdd, Nat.reduceSub, Nat.reduceMul, Nat.reduceLT, Nat.reduceLeDiff, reduceCtorEq, a_eq, a_neq, a_cast0, a_pred, a_app1, a_zero, Int.reduceToNat]
theorem rtG_noT {H : List Ob} : RtG 0 H (.tup [.agg [.lit (.bool false), .emp, .emp], Bo false]) (toO FQ.bad) (rH (qd FQ.bad)) := by
  rw [toO_bad, qd_bad]
  exact RtG.ren [none, none] [[], []] trivial (by decide) (by simp -dsimp only [go_sem, ↓reduceIte, Nat.reduceEqDiff, Nat.reduceAdd, Nat.reduceSub, Nat.reduceMul, Nat.reduceLT, Nat.reduceLeDiff, reduceCtorEq]; simp [iC]) (by simp -dsimp (disch := first | assumption | (refine OM.mk ?_; first | omega | (simp only [List.length_map, List.length_set, List.length_take] <;> omega)) | (simp -dsimp only [go_sem]; done) | fail) only [go_sem, ↓reduceIte, Nat.reduceEqDiff, Nat.reduceAdd, Nat.reduceSub, Nat.reduceMul, Nat.reduceLT, Nat.reduceLeDiff, reduceCtorEq, a_eq, a_neq, a_cast0, a_pred, a_app1, a_zero, Int.reduceToNat])
theorem told_g (f : Fl) (hf : f ≠ .u) (x : FQ) : GC PP F_impl_told [pQ f x] [] (toO x) (rH (qd x)) := by
  cases hx : x.good
  · obtain rfl : x = FQ.bad := by
      apply FQ.ext
      unfold FQ.good at hx
      cases e : x.1 with
      | none => rfl
      | some r => rw [e] at hx; cases hx
    refine txg W_impl_told ke_impl_told 0 [] [] [] rfl (by kernel_rfl) ?_
    simp -dsimp (disch := first | assumption | (refine OM.mk ?_; first | omega | (simp only [List.length_map, List.length_set, List.length_take] <;> omega)) | (simp -dsimp only [go_sem]; done) | fail) only [go_sem, ↓reduceIte, Nat.reduceEqDiff, Nat.reduceAdd, Nat.reduceSub, Nat.reduceMul, Nat.reduceLT, Nat.reduceLeDiff, reduceCtorEq, a_eq, a_neq, a_cast0, a_pred, a_app1, a_zero, Int.reduceToNat,  hx]
    exact rtG_noT
  · unfold toO
    rw [hx]
    refine txg W_impl_told ke_impl_told 0 [] [] [] rfl (by kernel_rfl) ?_
    simp -dsimp (disch := first | assumption | (refine OM.mk ?_; first | omega | (simp only [List.length_map, List.length_set, List.length_take] <;> omega)) | (simp -dsimp only [go_sem]; done) | fail) only [go_sem, ↓reduceIte, Nat.reduceEqDiff, Nat.reduceAdd, Nat.reduceSub, Nat.reduceMul, Nat.reduceLT, Nat.reduceLeDiff, reduceCtorEq, a_eq, a_neq, a_cast0, a_pred, a_app1, a_zero, Int.reduceToNat,  hx]
    refine callO' (store_g f hf x) (by simp -dsimp (disch := first | assumption | (simp -dsimp only [go_sem]; done) | fail) only [go_sem]) (by simp -dsimp only [go_sem, ↓reduceIte, Nat.reduceEqDiff, Nat.reduceAdd, Nat.reduceSub, Nat.reduceMul, Nat.reduceLT, Nat.reduceLeDiff, reduceCtorEq,  List.forall_mem_cons, List.not_mem_nil, false_implies, implies_true]) ?_
    simp -dsimp (disch := first | assumption | (refine OM.mk ?_; first | omega | (simp only [List.length_map, List.length_set, List.length_take] <;> omega)) | (simp -dsimp only [go_sem]; done) | fail) only [go_sem, ↓reduceIte, Nat.reduceEqDiff, Nat.reduceAdd, Nat.reduceSub, Nat.reduceMul, Nat.reduceLT, Nat.reduceLeDiff, reduceCtorEq, a_eq, a_neq, a_cast0, a_pred, a_app1, a_zero, Int.reduceToNat]
    exact RtG.nothing [some 1, some 2] (by simp -dsimp only [go_sem, ↓reduceIte, Nat.reduceEqDiff, Nat.reduceAdd, Nat.reduceSub, Nat.reduceMul, Nat.reduceLT, Nat.reduceLeDiff, reduceCtorEq]) (by decide) (by simp -dsimp only [go_sem, ↓reduceIte, Nat.reduceEqDiff, Nat.reduceAdd, Nat.reduceSub, Nat.reduceMul, Nat.reduceLT, Nat.reduceLeDiff, reduceCtorEq,  List.map_cons, List.map_nil]) (by simp -dsimp only [go_sem, ↓reduceIte, Nat.reduceEqDiff, Nat.reduceAdd, Nat.reduceSub, Nat.reduceMul, Nat.reduceLT, Nat.reduceLeDiff, reduceCtorEq])
theorem impl_InnerProduct_g (f g : Fl) (hf : f ≠ .u) (hg : g ≠ .u) (a b : List RD) (ha : smallL a) (hb : smallL b) : GC PP F_impl_InnerProduct [sR f a, sR g b] [] (toO (innerQ a b)) (rH (qd (innerQ a b))) := by
  unfold innerQ
  refine txg W_impl_InnerProduct ke_impl_InnerProduct 0 [] [] [] rfl (by kernel_rfl) ?_
  simp -dsimp (disch := first | assumption | (refine OM.mk ?_; first | omega | (simp only [List.length_map, List.length_set, List.length_take] <;> omega)) | (simp -dsimp only [go_sem]; done) | fail) only [go_sem, ↓reduceIte, Nat.reduceEqDiff, Nat.reduceAdd, Nat.reduceSub, Nat.reduceMul, Nat.reduceLT, Nat.reduceLeDiff, reduceCtorEq, a_eq, a_neq, a_cast0, a_pred, a_app1, a_zero, Int.reduceToNat]
  cases k1 : vokR a
  · rw [if_neg (by unfold pairB; rw [k1]; simp)]
    refine callB' (loadVector_no f hf a ha k1) (by simp [V.fl2, V.fl1, rdC]) (by simp -dsimp only [go_sem, ↓reduceIte, Nat.reduceEqDiff, Nat.reduceAdd, Nat.reduceSub, Nat.reduceMul, Nat.reduceLT, Nat.reduceLeDiff, reduceCtorEq,  List.forall_mem_cons, List.not_mem_nil, false_implies, implies_true]) ?_
    simp -dsimp (disch := first | assumption | (refine OM.mk ?_; first | omega | (simp only [List.length_map, List.length_set, List.length_take] <;> omega)) | (simp -dsimp only [go_sem]; done) | fail) only [go_sem, ↓reduceIte, Nat.reduceEqDiff, Nat.reduceAdd, Nat.reduceSub, Nat.reduceMul, Nat.reduceLT, Nat.reduceLeDiff, reduceCtorEq, a_eq, a_neq, a_cast0, a_pred, a_app1, a_zero, Int.reduceToNat]
    cases k2 : vokR b
    · refine callB' (loadVector_no g hg b hb k2) (by simp [V.fl2, V.fl1, rdC]) (by simp -dsimp only [go_sem, ↓reduceIte, Nat.reduceEqDiff, Nat.reduceAdd, Nat.reduceSub, Nat.reduceMul, Nat.reduceLT, Nat.reduceLeDiff, reduceCtorEq,  List.forall_mem_cons, List.not_mem_nil, false_implies, implies_true]) ?_
      simp -dsimp (disch := first | assumption | (refine OM.mk ?_; first | omega | (simp only [List.length_map, List.length_set, List.length_take] <;> omega)) | (simp -dsimp only [go_sem]; done) | fail) only [go_sem, ↓reduceIte, Nat.reduceEqDiff, Nat.reduceAdd, Nat.reduceSub, Nat.reduceMul, Nat.reduceLT, Nat.reduceLeDiff, reduceCtorEq, a_eq, a_neq, a_cast0, a_pred, a_app1, a_zero, Int.reduceToNat]
      exact rtG_noT
    · refine callB' (loadVector_ok g hg b hb k2) (by simp [V.fl2, V.fl1, rdC]) (by simp -dsimp only [go_sem, ↓reduceIte, Nat.reduceEqDiff, Nat.reduceAdd, Nat.reduceSub, Nat.reduceMul, Nat.reduceLT, Nat.reduceLeDiff, reduceCtorEq,  List.forall_mem_cons, List.not_mem_nil, false_implies, implies_true]) ?_
      simp -dsimp (disch := first | assumption | (refine OM.mk ?_; first | omega | (simp only [List.length_map, List.length_set, List.length_take] <;> omega)) | (simp -dsimp only [go_sem]; done) | fail) only [go_sem, ↓reduceIte, Nat.reduceEqDiff, Nat.reduceAdd, Nat.reduceSub, Nat.reduceMul, Nat.reduceLT, Nat.reduceLeDiff, reduceCtorEq, a_eq, a_neq, a_cast0, a_pred, a_app1, a_zero, Int.reduceToNat]
      exact rtG_noT
  · refine callB' (loadVector_ok f hf a ha k1) (by simp [V.fl2, V.fl1, rdC]) (by simp -dsimp only [go_sem, ↓reduceIte, Nat.reduceEqDiff, Nat.reduceAdd, Nat.reduceSub, Nat.reduceMul, Nat.reduceLT, Nat.reduceLeDiff, reduceCtorEq,  List.forall_mem_cons, List.not_mem_nil, false_implies, implies_true]) ?_
    simp -dsimp (disch := first | assumption | (refine OM.mk ?_; first | omega | (simp only [List.length_map, List.length_set, List.length_take] <;> omega)) | (simp -dsimp only [go_sem]; done) | fail) only [go_sem, ↓reduceIte, Nat.reduceEqDiff, Nat.reduceAdd, Nat.reduceSub, Nat.reduceMul, Nat.reduceLT, Nat.reduceLeDiff, reduceCtorEq, a_eq, a_neq, a_cast0, a_pred, a_app1, a_zero, Int.reduceToNat]
    cases k2 : vokR b
    · rw [if_neg (by unfold pairB; rw [k2]; simp)]
      refine callB' (loadVector_no g hg b hb k2) (by simp [V.fl2, V.fl1, rdC]) (by simp -dsimp only [go_sem, ↓reduceIte, Nat.reduceEqDiff, Nat.reduceAdd, Nat.reduceSub, Nat.reduceMul, Nat.reduceLT, Nat.reduceLeDiff, reduceCtorEq,  List.forall_mem_cons, List.not_mem_nil, false_implies, implies_true]) ?_
      simp -dsimp (disch := first | assumption | (refine OM.mk ?_; first | omega | (simp only [List.length_map, List.length_set, List.length_take] <;> omega)) | (simp -dsimp only [go_sem]; done) | fail) only [go_sem, ↓reduceIte, Nat.reduceEqDiff, Nat.reduceAdd, Nat.reduceSub, Nat.reduceMul, Nat.reduceLT, Nat.reduceLeDiff, reduceCtorEq, a_eq, a_neq, a_cast0, a_pred, a_app1, a_zero, Int.reduceToNat]
      exact rtG_noT
    · refine callB' (loadVector_ok g hg b hb k2) (by simp [V.fl2, V.fl1, rdC]) (by simp -dsimp only [go_sem, ↓reduceIte, Nat.reduceEqDiff, Nat.reduceAdd, Nat.reduceSub, Nat.reduceMul, Nat.reduceLT, Nat.reduceLeDiff, reduceCtorEq,  List.forall_mem_cons, List.not_mem_nil, false_implies, implies_true]) ?_
      have h24 : a.length ≤ 24 := vokR_len k1
      have h24' : b.length ≤ 24 := vokR_len k2
      by_cases hn : a.length = b.length
      · rw [if_pos (by unfold pairB; rw [k1, k2, hn]; simp)]
        have q := inner_c .b .b .b .b flb flb flb flb (a.map rdq) (b.map rdq) (by simp [hn]) (by simp; omega)
        have hlx : (a.map rdq).length = a.length := List.length_map _
        have hly : (b.map rdq).length = a.length := by rw [List.length_map, hn]
        rw [hlx] at q
        generalize sumQ (fun i => ((a.map rdq).getD i FQ.bad).mul ((b.map rdq).getD i FQ.bad)) a.length = S at *
        generalize a.map rdq = x at *
        generalize b.map rdq = y at *
        rw [← hn]
        simp -dsimp (disch := first | assumption | (refine OM.mk ?_; first | omega | (simp only [List.length_map, List.length_set, List.length_take] <;> omega)) | (simp -dsimp only [go_sem]; done) | fail) only [go_sem, ↓reduceIte, Nat.reduceEqDiff, Nat.reduceAdd, Nat.reduceSub, Nat.reduceMul, Nat.reduceLT, Nat.reduceLeDiff, reduceCtorEq, a_eq, a_neq, a_cast0, a_pred, a_app1, a_zero, Int.reduceToNat]
        refine callP q (by simp -dsimp (disch := first | assumption | (refine OM.mk ?_; first | omega | (simp only [List.length_map, List.length_set, List.length_take] <;> omega)) | (simp -dsimp only [go_sem]; done) | fail) only [go_sem, ↓reduceIte, Nat.reduceEqDiff, Nat.reduceAdd, Nat.reduceSub, Nat.reduceMul, Nat.reduceLT, Nat.reduceLeDiff, reduceCtorEq, a_eq, a_neq, a_cast0, a_pred, a_app1, a_zero, Int.reduceToNat]) ?_
        simp -dsimp (disch := first | assumption | (refine OM.mk ?_; first | omega | (simp only [List.length_map, List.length_set, List.length_take] <;> omega)) | (simp -dsimp only [go_sem]; done) | fail) only [go_sem, ↓reduceIte, Nat.reduceEqDiff, Nat.reduceAdd, Nat.reduceSub, Nat.reduceMul, Nat.reduceLT, Nat.reduceLeDiff, reduceCtorEq, a_eq, a_neq, a_cast0, a_pred, a_app1, a_zero, Int.reduceToNat]
        refine callO' (told_g .s fls S) (by simp -dsimp (disch := first | assumption | (simp -dsimp only [go_sem]; done) | fail) only [go_sem]) (by simp -dsimp only [go_sem, ↓reduceIte, Nat.reduceEqDiff, Nat.reduceAdd, Nat.reduceSub, Nat.reduceMul, Nat.reduceLT, Nat.reduceLeDiff, reduceCtorEq,  List.forall_mem_cons, List.not_mem_nil, false_implies, implies_true]) ?_
        simp -dsimp (disch := first | assumption | (refine OM.mk ?_; first | omega | (simp only [List.length_map, List.length_set, List.length_take] <;> omega)) | (simp -dsimp only [go_sem]; done) | fail) only [go_sem, ↓reduceIte, Nat.reduceEqDiff, Nat.reduceAdd, Nat.reduceSub, Nat.reduceMul, Nat.reduceLT, Nat.reduceLeDiff, reduceCtorEq, a_eq, a_neq, a_cast0, a_pred, a_app1, a_zero, Int.reduceToNat]
        exact RtG.nothing [some 3, some 4] (by simp -dsimp only [go_sem, ↓reduceIte, Nat.reduceEqDiff, Nat.reduceAdd, Nat.reduceSub, Nat.reduceMul, Nat.reduceLT, Nat.reduceLeDiff, reduceCtorEq]) (by decide) (by simp -dsimp only [go_sem, ↓reduceIte, Nat.reduceEqDiff, Nat.reduceAdd, Nat.reduceSub, Nat.reduceMul, Nat.reduceLT, Nat.reduceLeDiff, reduceCtorEq,  List.map_cons, List.map_nil]) (by simp -dsimp only [go_sem, ↓reduceIte, Nat.reduceEqDiff, Nat.reduceAdd, Nat.reduceSub, Nat.reduceMul, Nat.reduceLT, Nat.reduceLeDiff, reduceCtorEq])
      · rw [if_neg (by unfold pairB; rw [decide_eq_false hn]; simp)]
        simp -dsimp (disch := first | assumption | (refine OM.mk ?_; first | omega | (simp only [List.length_map, List.length_set, List.length_take] <;> omega)) | (simp -dsimp only [go_sem]; done) | fail) only [go_sem, ↓reduceIte, Nat.reduceEqDiff, Nat.reduceAdd, Nat.reduceSub, Nat.reduceMul, Nat.reduceLT, Nat.reduceLeDiff, reduceCtorEq, a_eq, a_neq, a_cast0, a_pred, a_app1, a_zero, Int.reduceToNat,  hn]
        exact rtG_noT
end Go.Proofs.Ytkllbcfhkhfniaa
