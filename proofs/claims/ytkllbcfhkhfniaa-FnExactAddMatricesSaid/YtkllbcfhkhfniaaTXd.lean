/- part of the proof -/
import Derived.Test.YtkllbcfhkhfniaaTXc
import Derived.Test.YtkllbcfhkhfniaaTKb
namespace Go.Proofs.Ytkllbcfhkhfniaa
open Go Go.RowKit
set_option maxRecDepth 100000
set_option maxHeartbeats 4000000
set_option linter.unusedVariables false
set_option linter.unusedSimpArgs false
theorem l08Sum_c (f : Fl) (hf : f ≠ .u) (x : List FQ) (hl : x.length ≤ 1000000) : PC PP F_spec_l08Sum [sR f (x.map qd)] (rV .s (qd (sumQ (fun i => x.getD i FQ.bad) x.length))) [] := by
  have hlx : (x.map qd).length = x.length := List.length_map _
  refine tx W_spec_l08Sum ke_spec_l08Sum [] (by kernel_rfl) ?_
  simp -dsimp (disch := first | assumption | (refine OM.mk ?_; first | omega | (simp only [List.length_map, List.length_set, List.length_take] <;> omega)) | (simp -dsimp only [go_sem]; done) | fail) only [go_sem, ↓reduceIte, Nat.reduceEqDiff, Nat.reduceAdd, Nat.reduceSub, Nat.reduceMul, Nat.reduceLT, Nat.reduceLeDiff, reduceCtorEq, a_eq, a_neq, a_cast0, a_pred, a_app1, a_zero, Int.reduceToNat]
  refine callP l05Zero_c (by simp -dsimp (disch := first | assumption | (simp -dsimp only [go_sem]; done) | fail) only [go_sem]) ?_
  simp -dsimp (disch := first | assumption | (refine OM.mk ?_; first | omega | (simp only [List.length_map, List.length_set, List.length_take] <;> omega)) | (simp -dsimp only [go_sem]; done) | fail) only [go_sem, ↓reduceIte, Nat.reduceEqDiff, Nat.reduceAdd, Nat.reduceSub, Nat.reduceMul, Nat.reduceLT, Nat.reduceLeDiff, reduceCtorEq, a_eq, a_neq, a_cast0, a_pred, a_app1, a_zero, Int.reduceToNat]
  refine loopJ (fun k : Nat => k ≤ x.length) (fun k => ⟨[(2, .ref 0 0), (3, .ref 1 0), (7, sR f (x.map qd)), (8, I x.length), (9, I k)], [⟨.own, T_impl_Rat, rdC .s RD.zero⟩, ⟨.own, T_impl_Rat, rdC .s (qd (sumQ (fun i => x.getD i FQ.bad) k))⟩]⟩) (fun k => x.length - k) 0 (by omega) ?_ ?_
  · refine StI.ren [some 0, some 1] [[], []] (by simp -dsimp only [go_sem, ↓reduceIte, Nat.reduceEqDiff, Nat.reduceAdd, Nat.reduceSub, Nat.reduceMul, Nat.reduceLT, Nat.reduceLeDiff, reduceCtorEq]) (by decide) ?_ (by simp -dsimp (disch := first | assumption | (refine OM.mk ?_; first | omega | (simp only [List.length_map, List.length_set, List.length_take] <;> omega)) | (simp -dsimp only [go_sem]; done) | fail) only [go_sem, ↓reduceIte, Nat.reduceEqDiff, Nat.reduceAdd, Nat.reduceSub, Nat.reduceMul, Nat.reduceLT, Nat.reduceLeDiff, reduceCtorEq, a_eq, a_neq, a_cast0, a_pred, a_app1, a_zero, Int.reduceToNat])
    simp -dsimp (disch := first | assumption | (refine OM.mk ?_; first | omega | (simp only [List.length_map, List.length_set, List.length_take] <;> omega)) | (simp -dsimp only [go_sem]; done) | fail) only [go_sem, ↓reduceIte, Nat.reduceEqDiff, Nat.reduceAdd, Nat.reduceSub, Nat.reduceMul, Nat.reduceLT, Nat.reduceLeDiff, reduceCtorEq, a_eq, a_neq, a_cast0, a_pred, a_app1, a_zero, Int.reduceToNat]
    exact ⟨rfl, rfl, ⟨rfl, rfl⟩, rfl, rfl⟩
  intro k hk
  by_cases h : k < x.length
  · have hgx : (x.map qd).getD k RD.zero = qd (x.getD k FQ.bad) := getD_map_qd h
    have hs : sumQ (fun i => x.getD i FQ.bad) (k + 1) = (sumQ (fun i => x.getD i FQ.bad) k).add (x.getD k FQ.bad) := rfl
    generalize hS' : sumQ (fun i => x.getD i FQ.bad) (k + 1) = S' at *
    generalize sumQ (fun i => x.getD i FQ.bad) k = S at *
    simp -dsimp (disch := first | assumption | (refine OM.mk ?_; first | omega | (simp only [List.length_map, List.length_set, List.length_take] <;> omega)) | (simp -dsimp only [go_sem]; done) | fail) only [go_sem, ↓reduceIte, Nat.reduceEqDiff, Nat.reduceAdd, Nat.reduceSub, Nat.reduceMul, Nat.reduceLT, Nat.reduceLeDiff, reduceCtorEq, a_eq, a_neq, a_cast0, a_pred, a_app1, a_zero, Int.reduceToNat,  hgx]
    refine callP (l04Add_c .s f fls hf S (x.getD k FQ.bad)) (by simp -dsimp (disch := first | assumption | (simp -dsimp only [go_sem]; done) | fail) only [go_sem]) ?_
    rw [← hs]
    simp -dsimp (disch := first | assumption | (refine OM.mk ?_; first | omega | (simp only [List.length_map, List.length_set, List.length_take] <;> omega)) | (simp -dsimp only [go_sem]; done) | fail) only [go_sem, ↓reduceIte, Nat.reduceEqDiff, Nat.reduceAdd, Nat.reduceSub, Nat.reduceMul, Nat.reduceLT, Nat.reduceLeDiff, reduceCtorEq, a_eq, a_neq, a_cast0, a_pred, a_app1, a_zero, Int.reduceToNat]
    refine ⟨k + 1, by omega, by omega, ?_⟩
    rw [hS']
    exact StI.ren [some 0, some 1] [[], []] (by simp -dsimp only [go_sem, ↓reduceIte, Nat.reduceEqDiff, Nat.reduceAdd, Nat.reduceSub, Nat.reduceMul, Nat.reduceLT, Nat.reduceLeDiff, reduceCtorEq]) (by decide) (by simp -dsimp (disch := first | assumption | (refine OM.mk ?_; first | omega | (simp only [List.length_map, List.length_set, List.length_take] <;> omega)) | (simp -dsimp only [go_sem]; done) | fail) only [go_sem, ↓reduceIte, Nat.reduceEqDiff, Nat.reduceAdd, Nat.reduceSub, Nat.reduceMul, Nat.reduceLT, Nat.reduceLeDiff, reduceCtorEq, a_eq, a_neq, a_cast0, a_pred, a_app1, a_zero, Int.reduceToNat]) (by simp -dsimp (disch := first | assumption | (refine OM.mk ?_; first | omega | (simp only [List.length_map, List.length_set, List.length_take] <;> omega)) | (simp -dsimp only [go_sem]; done) | fail) only [go_sem, ↓reduceIte, Nat.reduceEqDiff, Nat.reduceAdd, Nat.reduceSub, Nat.reduceMul, Nat.reduceLT, Nat.reduceLeDiff, reduceCtorEq, a_eq, a_neq, a_cast0, a_pred, a_app1, a_zero, Int.reduceToNat])
  · obtain rfl : k = x.length := by omega
    simp -dsimp (disch := first | assumption | (refine OM.mk ?_; first | omega | (simp only [List.length_map, List.length_set, List.length_take] <;> omega)) | (simp -dsimp only [go_sem]; done) | fail) only [go_sem, ↓reduceIte, Nat.reduceEqDiff, Nat.reduceAdd, Nat.reduceSub, Nat.reduceMul, Nat.reduceLT, Nat.reduceLeDiff, reduceCtorEq, a_eq, a_neq, a_cast0, a_pred, a_app1, a_zero, Int.reduceToNat]
noncomputable def traceQ (m : MD) : FQ := if (m.ok && decide (m.rows = m.cols)) = true then sumQ (fun i => m.at m.rows.toNat i i) m.rows.toNat else FQ.bad
theorem traceQ_ok {m : MD} {n : Nat} (ho : m.ok = true) (hg : m.Good n n) : traceQ m = sumQ (fun i => m.at n i i) n := by
  unfold traceQ
  rw [ho, decide_eq_true (by rw [hg.er, hg.ec]), if_pos (by rfl), show m.rows.toNat = n by rw [hg.er]; rfl]
theorem traceQ_no {m : MD} (h : (m.ok && decide (m.rows = m.cols)) = false) : traceQ m = FQ.bad := by unfold traceQ; rw [h]; rfl
theorem diagR_qd {m : MD} {n : Nat} (ho : m.ok = true) (hg : m.Good n n) : diagR m = (rowQ n (fun i => m.at n i i)).map qd := by
  rw [diagR_ok ho hg]
  unfold rowQ
  rw [List.map_map]
  exact List.map_congr_left fun i hi => ((MD.at_ok hg (List.mem_range.1 hi) (List.mem_range.1 hi)).2).symm
theorem spec_TraceOf_c (m : MD) (f : Fl) (hf : f ≠ .u) (hs : smallL m.cells) : PC PP F_spec_TraceOf [mtV f m] (toS (traceQ m)) [] := by
  refine tx W_spec_TraceOf ke_spec_TraceOf [] (by kernel_rfl) ?_
  simp -dsimp (disch := first | assumption | (refine OM.mk ?_; first | omega | (simp only [List.length_map, List.length_set, List.length_take] <;> omega)) | (simp -dsimp only [go_sem]; done) | fail) only [go_sem, ↓reduceIte, Nat.reduceEqDiff, Nat.reduceAdd, Nat.reduceSub, Nat.reduceMul, Nat.reduceLT, Nat.reduceLeDiff, reduceCtorEq, a_eq, a_neq, a_cast0, a_pred, a_app1, a_zero, Int.reduceToNat]
  refine callP (spec_MatrixOk_c m f hf hs) (by simp -dsimp (disch := first | assumption | (simp -dsimp only [go_sem]; done) | fail) only [go_sem]) ?_
  cases ho : m.ok
  · rw [traceQ_no (by rw [ho]; rfl), toS_bad]
    simp -dsimp (disch := first | assumption | (refine OM.mk ?_; first | omega | (simp only [List.length_map, List.length_set, List.length_take] <;> omega)) | (simp -dsimp only [go_sem]; done) | fail) only [go_sem, ↓reduceIte, Nat.reduceEqDiff, Nat.reduceAdd, Nat.reduceSub, Nat.reduceMul, Nat.reduceLT, Nat.reduceLeDiff, reduceCtorEq, a_eq, a_neq, a_cast0, a_pred, a_app1, a_zero, Int.reduceToNat]
  · by_cases h : m.rows = m.cols
    · obtain ⟨n, c, hg⟩ := MD.ok_good ho
      obtain rfl : n = c := by have := hg.er; have := hg.ec; omega
      have q := spec_DiagonalOf_c m f hf hs
      rw [diagR_qd ho hg] at q
      have q2 := l08Sum_c .s fls (rowQ n (fun i => m.at n i i)) (by rw [rowQ_length]; have := hg.r24; omega)
      rw [rowQ_length, sumQ_congr (g := fun i => (rowQ n fun i => m.at n i i).getD i FQ.bad) (h := fun i => m.at n i i) (fun i hi => rowQ_get hi), ← traceQ_ok ho hg] at q2
      generalize rowQ n (fun i => m.at n i i) = d at *
      generalize traceQ m = S at *
      simp -dsimp (disch := first | assumption | (refine OM.mk ?_; first | omega | (simp only [List.length_map, List.length_set, List.length_take] <;> omega)) | (simp -dsimp only [go_sem]; done) | fail) only [go_sem, ↓reduceIte, Nat.reduceEqDiff, Nat.reduceAdd, Nat.reduceSub, Nat.reduceMul, Nat.reduceLT, Nat.reduceLeDiff, reduceCtorEq, a_eq, a_neq, a_cast0, a_pred, a_app1, a_zero, Int.reduceToNat,  h]
      refine callP q (by simp -dsimp (disch := first | assumption | (refine OM.mk ?_; first | omega | (simp only [List.length_map, List.length_set, List.length_take] <;> omega)) | (simp -dsimp only [go_sem]; done) | fail) only [go_sem, ↓reduceIte, Nat.reduceEqDiff, Nat.reduceAdd, Nat.reduceSub, Nat.reduceMul, Nat.reduceLT, Nat.reduceLeDiff, reduceCtorEq, a_eq, a_neq, a_cast0, a_pred, a_app1, a_zero, Int.reduceToNat,  h]) ?_
      simp -dsimp (disch := first | assumption | (refine OM.mk ?_; first | omega | (simp only [List.length_map, List.length_set, List.length_take] <;> omega)) | (simp -dsimp only [go_sem]; done) | fail) only [go_sem, ↓reduceIte, Nat.reduceEqDiff, Nat.reduceAdd, Nat.reduceSub, Nat.reduceMul, Nat.reduceLT, Nat.reduceLeDiff, reduceCtorEq, a_eq, a_neq, a_cast0, a_pred, a_app1, a_zero, Int.reduceToNat]
      refine callP q2 (by simp -dsimp (disch := first | assumption | (simp -dsimp only [go_sem]; done) | fail) only [go_sem]) ?_
      simp -dsimp (disch := first | assumption | (refine OM.mk ?_; first | omega | (simp only [List.length_map, List.length_set, List.length_take] <;> omega)) | (simp -dsimp only [go_sem]; done) | fail) only [go_sem, ↓reduceIte, Nat.reduceEqDiff, Nat.reduceAdd, Nat.reduceSub, Nat.reduceMul, Nat.reduceLT, Nat.reduceLeDiff, reduceCtorEq, a_eq, a_neq, a_cast0, a_pred, a_app1, a_zero, Int.reduceToNat]
      refine callP (l05Bad_c .s fls S) (by simp -dsimp (disch := first | assumption | (simp -dsimp only [go_sem]; done) | fail) only [go_sem]) ?_
      simp -dsimp (disch := first | assumption | (refine OM.mk ?_; first | omega | (simp only [List.length_map, List.length_set, List.length_take] <;> omega)) | (simp -dsimp only [go_sem]; done) | fail) only [go_sem, ↓reduceIte, Nat.reduceEqDiff, Nat.reduceAdd, Nat.reduceSub, Nat.reduceMul, Nat.reduceLT, Nat.reduceLeDiff, reduceCtorEq, a_eq, a_neq, a_cast0, a_pred, a_app1, a_zero, Int.reduceToNat,  Bool.not_not]
    · rw [traceQ_no (by rw [ho, decide_eq_false h]; rfl), toS_bad]
      simp -dsimp (disch := first | assumption | (refine OM.mk ?_; first | omega | (simp only [List.length_map, List.length_set, List.length_take] <;> omega)) | (simp -dsimp only [go_sem]; done) | fail) only [go_sem, ↓reduceIte, Nat.reduceEqDiff, Nat.reduceAdd, Nat.reduceSub, Nat.reduceMul, Nat.reduceLT, Nat.reduceLeDiff, reduceCtorEq, a_eq, a_neq, a_cast0, a_pred, a_app1, a_zero, Int.reduceToNat,  h]
theorem impl_TraceOf_g (m : MD) (f : Fl) (hf : f ≠ .u) (hs : smallL m.cells) : GC PP F_impl_TraceOf [mtV f m] [] (toO (traceQ m)) (rH (qd (traceQ m))) := by
  cases hk : (m.ok && decide (m.rows = m.cols))
  · obtain ⟨r, c, M, q⟩ := square_no m f hf hk hs
    rw [traceQ_no hk]
    refine txg W_impl_TraceOf ke_impl_TraceOf 0 [] [] [] rfl (by kernel_rfl) ?_
    simp -dsimp (disch := first | assumption | (refine OM.mk ?_; first | omega | (simp only [List.length_map, List.length_set, List.length_take] <;> omega)) | (simp -dsimp only [go_sem]; done) | fail) only [go_sem, ↓reduceIte, Nat.reduceEqDiff, Nat.reduceAdd, Nat.reduceSub, Nat.reduceMul, Nat.reduceLT, Nat.reduceLeDiff, reduceCtorEq, a_eq, a_neq, a_cast0, a_pred, a_app1, a_zero, Int.reduceToNat]
    refine callB' q (by simp [V.fl2, V.fl1, rdC]) (by simp -dsimp only [go_sem, ↓reduceIte, Nat.reduceEqDiff, Nat.reduceAdd, Nat.reduceSub, Nat.reduceMul, Nat.reduceLT, Nat.reduceLeDiff, reduceCtorEq,  List.forall_mem_cons, List.not_mem_nil, false_implies, implies_true]) ?_
    simp -dsimp (disch := first | assumption | (refine OM.mk ?_; first | omega | (simp only [List.length_map, List.length_set, List.length_take] <;> omega)) | (simp -dsimp only [go_sem]; done) | fail) only [go_sem, ↓reduceIte, Nat.reduceEqDiff, Nat.reduceAdd, Nat.reduceSub, Nat.reduceMul, Nat.reduceLT, Nat.reduceLeDiff, reduceCtorEq, a_eq, a_neq, a_cast0, a_pred, a_app1, a_zero, Int.reduceToNat]
    exact rtG_noT
  · simp only [Bool.and_eq_true, decide_eq_true_eq] at hk
    obtain ⟨ho, hk⟩ := hk
    obtain ⟨r, c, hg⟩ := MD.ok_good ho
    obtain rfl : r = c := by have := hg.er; have := hg.ec; omega
    have h24 := hg.r24
    have q := square_ok m f hf r hg hs
    rw [traceQ_ok ho hg]
    generalize m.at r = M at *
    refine txg W_impl_TraceOf ke_impl_TraceOf 0 [] [] [] rfl (by kernel_rfl) ?_
    simp -dsimp (disch := first | assumption | (refine OM.mk ?_; first | omega | (simp only [List.length_map, List.length_set, List.length_take] <;> omega)) | (simp -dsimp only [go_sem]; done) | fail) only [go_sem, ↓reduceIte, Nat.reduceEqDiff, Nat.reduceAdd, Nat.reduceSub, Nat.reduceMul, Nat.reduceLT, Nat.reduceLeDiff, reduceCtorEq, a_eq, a_neq, a_cast0, a_pred, a_app1, a_zero, Int.reduceToNat]
    refine callB' q (by simp [V.fl2, V.fl1, rdC]) (by simp -dsimp only [go_sem, ↓reduceIte, Nat.reduceEqDiff, Nat.reduceAdd, Nat.reduceSub, Nat.reduceMul, Nat.reduceLT, Nat.reduceLeDiff, reduceCtorEq,  List.forall_mem_cons, List.not_mem_nil, false_implies, implies_true]) ?_
    simp -dsimp (disch := first | assumption | (refine OM.mk ?_; first | omega | (simp only [List.length_map, List.length_set, List.length_take] <;> omega)) | (simp -dsimp only [go_sem]; done) | fail) only [go_sem, ↓reduceIte, Nat.reduceEqDiff, Nat.reduceAdd, Nat.reduceSub, Nat.reduceMul, Nat.reduceLT, Nat.reduceLeDiff, reduceCtorEq, a_eq, a_neq, a_cast0, a_pred, a_app1, a_zero, Int.reduceToNat]
    refine callP (whole_c 0 (by omega)) (by simp -dsimp (disch := first | assumption | (simp -dsimp only [go_sem]; done) | fail) only [go_sem]) ?_
    simp -dsimp (disch := first | assumption | (refine OM.mk ?_; first | omega | (simp only [List.length_map, List.length_set, List.length_take] <;> omega)) | (simp -dsimp only [go_sem]; done) | fail) only [go_sem, ↓reduceIte, Nat.reduceEqDiff, Nat.reduceAdd, Nat.reduceSub, Nat.reduceMul, Nat.reduceLT, Nat.reduceLeDiff, reduceCtorEq, a_eq, a_neq, a_cast0, a_pred, a_app1, a_zero, Int.reduceToNat]
    refine loopJ (fun k : Nat => k ≤ r) (fun k => ⟨[(2, .ref 0 0), (4, .ref 1 0), (6, pQ .s (sumQ (fun i => M i i) k)), (18, I r), (19, I k)], [⟨.own, T_impl_Rat, [.lit (.bool false), .emp, .emp]⟩, ⟨.own, T_impl_grid, [I r, I r, .sl .b 1 r (gC .b .b r r M)]⟩]⟩) (fun k => r - k) 0 (by omega) ?_ ?_
    · exact StI.ren [some 1, some 2] [[], []] (by simp -dsimp only [go_sem, ↓reduceIte, Nat.reduceEqDiff, Nat.reduceAdd, Nat.reduceSub, Nat.reduceMul, Nat.reduceLT, Nat.reduceLeDiff, reduceCtorEq]) (by decide) (by simp -dsimp (disch := first | assumption | (refine OM.mk ?_; first | omega | (simp only [List.length_map, List.length_set, List.length_take] <;> omega)) | (simp -dsimp only [go_sem]; done) | fail) only [go_sem, ↓reduceIte, Nat.reduceEqDiff, Nat.reduceAdd, Nat.reduceSub, Nat.reduceMul, Nat.reduceLT, Nat.reduceLeDiff, reduceCtorEq, a_eq, a_neq, a_cast0, a_pred, a_app1, a_zero, Int.reduceToNat]) (by simp -dsimp (disch := first | assumption | (refine OM.mk ?_; first | omega | (simp only [List.length_map, List.length_set, List.length_take] <;> omega)) | (simp -dsimp only [go_sem]; done) | fail) only [go_sem, ↓reduceIte, Nat.reduceEqDiff, Nat.reduceAdd, Nat.reduceSub, Nat.reduceMul, Nat.reduceLT, Nat.reduceLeDiff, reduceCtorEq, a_eq, a_neq, a_cast0, a_pred, a_app1, a_zero, Int.reduceToNat]; exact of_eq_true rn_pQs)
    intro k hk
    by_cases h : k < r
    · have hs : sumQ (fun i => M i i) (k + 1) = (sumQ (fun i => M i i) k).add (M k k) := rfl
      generalize hS' : sumQ (fun i => M i i) (k + 1) = S' at *
      generalize sumQ (fun i => M i i) k = S at *
      simp -dsimp (disch := first | assumption | (refine OM.mk ?_; first | omega | (simp only [List.length_map, List.length_set, List.length_take] <;> omega)) | (simp -dsimp only [go_sem]; done) | fail) only [go_sem, ↓reduceIte, Nat.reduceEqDiff, Nat.reduceAdd, Nat.reduceSub, Nat.reduceMul, Nat.reduceLT, Nat.reduceLeDiff, reduceCtorEq, a_eq, a_neq, a_cast0, a_pred, a_app1, a_zero, Int.reduceToNat]
      refine callP (add_c .s .b fls flb S (M k k)) (by simp -dsimp (disch := first | assumption | (simp -dsimp only [go_sem]; done) | fail) only [go_sem]) ?_
      rw [← hs]
      simp -dsimp (disch := first | assumption | (refine OM.mk ?_; first | omega | (simp only [List.length_map, List.length_set, List.length_take] <;> omega)) | (simp -dsimp only [go_sem]; done) | fail) only [go_sem, ↓reduceIte, Nat.reduceEqDiff, Nat.reduceAdd, Nat.reduceSub, Nat.reduceMul, Nat.reduceLT, Nat.reduceLeDiff, reduceCtorEq, a_eq, a_neq, a_cast0, a_pred, a_app1, a_zero, Int.reduceToNat]
      refine ⟨k + 1, by omega, by omega, ?_⟩
      rw [hS']
      exact StI.ren [some 0, some 1] [[], []] (by simp -dsimp only [go_sem, ↓reduceIte, Nat.reduceEqDiff, Nat.reduceAdd, Nat.reduceSub, Nat.reduceMul, Nat.reduceLT, Nat.reduceLeDiff, reduceCtorEq]) (by decide) (by simp -dsimp (disch := first | assumption | (refine OM.mk ?_; first | omega | (simp only [List.length_map, List.length_set, List.length_take] <;> omega)) | (simp -dsimp only [go_sem]; done) | fail) only [go_sem, ↓reduceIte, Nat.reduceEqDiff, Nat.reduceAdd, Nat.reduceSub, Nat.reduceMul, Nat.reduceLT, Nat.reduceLeDiff, reduceCtorEq, a_eq, a_neq, a_cast0, a_pred, a_app1, a_zero, Int.reduceToNat]) (by simp -dsimp (disch := first | assumption | (refine OM.mk ?_; first | omega | (simp only [List.length_map, List.length_set, List.length_take] <;> omega)) | (simp -dsimp only [go_sem]; done) | fail) only [go_sem, ↓reduceIte, Nat.reduceEqDiff, Nat.reduceAdd, Nat.reduceSub, Nat.reduceMul, Nat.reduceLT, Nat.reduceLeDiff, reduceCtorEq, a_eq, a_neq, a_cast0, a_pred, a_app1, a_zero, Int.reduceToNat])
    · obtain rfl : k = r := by omega
      generalize sumQ (fun i => M i i) k = S at *
      simp -dsimp (disch := first | assumption | (refine OM.mk ?_; first | omega | (simp only [List.length_map, List.length_set, List.length_take] <;> omega)) | (simp -dsimp only [go_sem]; done) | fail) only [go_sem, ↓reduceIte, Nat.reduceEqDiff, Nat.reduceAdd, Nat.reduceSub, Nat.reduceMul, Nat.reduceLT, Nat.reduceLeDiff, reduceCtorEq, a_eq, a_neq, a_cast0, a_pred, a_app1, a_zero, Int.reduceToNat]
      refine callO' (told_g .s fls S) (by simp -dsimp (disch := first | assumption | (simp -dsimp only [go_sem]; done) | fail) only [go_sem]) (by simp -dsimp only [go_sem, ↓reduceIte, Nat.reduceEqDiff, Nat.reduceAdd, Nat.reduceSub, Nat.reduceMul, Nat.reduceLT, Nat.reduceLeDiff, reduceCtorEq,  List.forall_mem_cons, List.not_mem_nil, false_implies, implies_true]) ?_
      simp -dsimp (disch := first | assumption | (refine OM.mk ?_; first | omega | (simp only [List.length_map, List.length_set, List.length_take] <;> omega)) | (simp -dsimp only [go_sem]; done) | fail) only [go_sem, ↓reduceIte, Nat.reduceEqDiff, Nat.reduceAdd, Nat.reduceSub, Nat.reduceMul, Nat.reduceLT, Nat.reduceLeDiff, reduceCtorEq, a_eq, a_neq, a_cast0, a_pred, a_app1, a_zero, Int.reduceToNat]
      exact RtG.nothing [some 2, some 3] (by simp -dsimp only [go_sem, ↓reduceIte, Nat.reduceEqDiff, Nat.reduceAdd, Nat.reduceSub, Nat.reduceMul, Nat.reduceLT, Nat.reduceLeDiff, reduceCtorEq]) (by decide) (by simp -dsimp only [go_sem, ↓reduceIte, Nat.reduceEqDiff, Nat.reduceAdd, Nat.reduceSub, Nat.reduceMul, Nat.reduceLT, Nat.reduceLeDiff, reduceCtorEq,  List.map_cons, List.map_nil]) (by simp -dsimp only [go_sem, ↓reduceIte, Nat.reduceEqDiff, Nat.reduceAdd, Nat.reduceSub, Nat.reduceMul, Nat.reduceLT, Nat.reduceLeDiff, reduceCtorEq])
def doneM (r c : Int) (l : List FQ) : MD × Bool := if allG l = true then (⟨r, c, l.map qd⟩, true) else (MD.zero, false)
theorem cloQ_done {n c : Nat} {M : Nat → Nat → FQ} : cloQ n c M = doneM n c (gridL n c M) := rfl
abbrev moS (p : MD × Bool) : V := .tup [mtV .s p.1, Bo p.2]
abbrev noM : MD × Bool := (MD.zero, false)
theorem l06Done_c (r c : Int) (l : List FQ) (hl : l.length ≤ 1048576) : PC PP F_spec_l06Done [mtV .s ⟨r, c, l.map qd⟩] (moS (doneM r c l)) [] := by
  refine tx W_spec_l06Done ke_spec_l06Done [] (by kernel_rfl) ?_
  simp -dsimp (disch := first | assumption | (refine OM.mk ?_; first | omega | (simp only [List.length_map, List.length_set, List.length_take] <;> omega)) | (simp -dsimp only [go_sem]; done) | fail) only [go_sem, ↓reduceIte, Nat.reduceEqDiff, Nat.reduceAdd, Nat.reduceSub, Nat.reduceMul, Nat.reduceLT, Nat.reduceLeDiff, reduceCtorEq, a_eq, a_neq, a_cast0, a_pred, a_app1, a_zero, Int.reduceToNat]
  refine callP (l05Fine_c .s fls l hl) (by simp -dsimp (disch := first | assumption | (simp -dsimp only [go_sem]; done) | fail) only [go_sem]) ?_
  unfold doneM
  cases h : allG l
  · rw [if_neg (by decide)]
    simp -dsimp (disch := first | assumption | (refine OM.mk ?_; first | omega | (simp only [List.length_map, List.length_set, List.length_take] <;> omega)) | (simp -dsimp only [go_sem]; done) | fail) only [go_sem, ↓reduceIte, Nat.reduceEqDiff, Nat.reduceAdd, Nat.reduceSub, Nat.reduceMul, Nat.reduceLT, Nat.reduceLeDiff, reduceCtorEq, a_eq, a_neq, a_cast0, a_pred, a_app1, a_zero, Int.reduceToNat]
  · rw [if_pos rfl]
    simp -dsimp (disch := first | assumption | (refine OM.mk ?_; first | omega | (simp only [List.length_map, List.length_set, List.length_take] <;> omega)) | (simp -dsimp only [go_sem]; done) | fail) only [go_sem, ↓reduceIte, Nat.reduceEqDiff, Nat.reduceAdd, Nat.reduceSub, Nat.reduceMul, Nat.reduceLT, Nat.reduceLeDiff, reduceCtorEq, a_eq, a_neq, a_cast0, a_pred, a_app1, a_zero, Int.reduceToNat]
theorem gridL_getD {n c : Nat} {M : Nat → Nat → FQ} {i k : Nat} (hi : i < n) (hk : k < c) : (gridL n c M).getD (i * c + k) FQ.bad = M i k := by
  induction n with
  | zero => omega
  | succ n ih =>
    rw [gridL_succ, List.getD_eq_getElem?_getD]
    rcases Nat.lt_or_eq_of_le (Nat.le_of_lt_succ hi) with h | rfl
    · rw [List.getElem?_append_left (by rw [gridL_length]; exact ix_lt h hk), ← List.getD_eq_getElem?_getD]
      exact ih h
    · rw [List.getElem?_append_right (by rw [gridL_length]; omega), gridL_length, Nat.add_sub_cancel_left, ← List.getD_eq_getElem?_getD]
      exact rowQ_get hk
theorem gridL_ext {n c : Nat} {M : Nat → Nat → FQ} {l : List FQ} (hl : l.length = n * c) (h : ∀ i k, i < n → k < c → l.getD (i * c + k) FQ.bad = M i k) : l = gridL n c M := by
  refine List.ext_getElem (by rw [hl, gridL_length]) fun p h1 h2 => ?_
  have hc : 0 < c := by
    rcases Nat.eq_zero_or_pos c with rfl | h
    · rw [hl, Nat.mul_zero] at h1; omega
    · exact h
  have hp : p / c < n := Nat.div_lt_of_lt_mul (by rw [Nat.mul_comm, ← hl]; exact h1)
  have e : p = p / c * c + p % c := by rw [Nat.mul_comm]; exact (Nat.div_add_mod p c).symm
  have q1 := h (p / c) (p % c) hp (Nat.mod_lt _ hc)
  have q2 := gridL_getD (M := M) hp (Nat.mod_lt p hc)
  rw [← e] at q1 q2
  rw [List.getD_eq_getElem?_getD, List.getElem?_eq_getElem h1, Option.getD_some] at q1
  rw [List.getD_eq_getElem?_getD, List.getElem?_eq_getElem h2, Option.getD_some] at q2
  rw [q1, q2]
def addOk (a b : MD) : Bool := a.ok && b.ok && decide (a.rows = b.rows) && decide (a.cols = b.cols)
noncomputable def addM (a b : MD) : MD × Bool := if addOk a b = true then doneM a.rows a.cols (List.zipWith FQ.add (a.cells.map rdq) (b.cells.map rdq)) else noM
theorem all_list {l : List RD} (h : l.all RD.ok = true) : ∃ m : List FQ, l = m.map qd ∧ l.map rdq = m ∧ allG m = true := by
  rw [List.all_eq_true] at h
  refine ⟨l.map rdq, ?_, rfl, ?_⟩
  · rw [List.map_map]
    conv => lhs; rw [← List.map_id l]
    exact List.map_congr_left fun r hr => (qd_rdq (h r hr)).symm
  · unfold allG
    rw [List.all_eq_true]
    intro x hx
    obtain ⟨r, hr, rfl⟩ := List.mem_map.1 hx
    rw [rdq_good]; exact h r hr
theorem spec_AddMatrices_c (a b : MD) (f g : Fl) (hf : f ≠ .u) (hg : g ≠ .u) (ha : smallL a.cells) (hb : smallL b.cells) : PC PP F_spec_AddMatrices [mtV f a, mtV g b] (moS (addM a b)) [] := by
  unfold addM
  cases k : addOk a b
  · rw [if_neg (by simp)]
    refine tx W_spec_AddMatrices ke_spec_AddMatrices [] (by kernel_rfl) ?_
    simp -dsimp (disch := first | assumption | (refine OM.mk ?_; first | omega | (simp only [List.length_map, List.length_set, List.length_take] <;> omega)) | (simp -dsimp only [go_sem]; done) | fail) only [go_sem, ↓reduceIte, Nat.reduceEqDiff, Nat.reduceAdd, Nat.reduceSub, Nat.reduceMul, Nat.reduceLT, Nat.reduceLeDiff, reduceCtorEq, a_eq, a_neq, a_cast0, a_pred, a_app1, a_zero, Int.reduceToNat]
    refine callP (spec_MatrixOk_c a f hf ha) (by simp -dsimp (disch := first | assumption | (simp -dsimp only [go_sem]; done) | fail) only [go_sem]) ?_
    cases k1 : a.ok
    · simp -dsimp (disch := first | assumption | (refine OM.mk ?_; first | omega | (simp only [List.length_map, List.length_set, List.length_take] <;> omega)) | (simp -dsimp only [go_sem]; done) | fail) only [go_sem, ↓reduceIte, Nat.reduceEqDiff, Nat.reduceAdd, Nat.reduceSub, Nat.reduceMul, Nat.reduceLT, Nat.reduceLeDiff, reduceCtorEq, a_eq, a_neq, a_cast0, a_pred, a_app1, a_zero, Int.reduceToNat]
    · simp -dsimp (disch := first | assumption | (refine OM.mk ?_; first | omega | (simp only [List.length_map, List.length_set, List.length_take] <;> omega)) | (simp -dsimp only [go_sem]; done) | fail) only [go_sem, ↓reduceIte, Nat.reduceEqDiff, Nat.reduceAdd, Nat.reduceSub, Nat.reduceMul, Nat.reduceLT, Nat.reduceLeDiff, reduceCtorEq, a_eq, a_neq, a_cast0, a_pred, a_app1, a_zero, Int.reduceToNat]
      refine callP (spec_MatrixOk_c b g hg hb) (by simp -dsimp (disch := first | assumption | (simp -dsimp only [go_sem]; done) | fail) only [go_sem]) ?_
      cases k2 : b.ok
      · simp -dsimp (disch := first | assumption | (refine OM.mk ?_; first | omega | (simp only [List.length_map, List.length_set, List.length_take] <;> omega)) | (simp -dsimp only [go_sem]; done) | fail) only [go_sem, ↓reduceIte, Nat.reduceEqDiff, Nat.reduceAdd, Nat.reduceSub, Nat.reduceMul, Nat.reduceLT, Nat.reduceLeDiff, reduceCtorEq, a_eq, a_neq, a_cast0, a_pred, a_app1, a_zero, Int.reduceToNat]
      · by_cases h1 : a.rows = b.rows
        · by_cases h2 : a.cols = b.cols
          · unfold addOk at k
            rw [k1, k2, decide_eq_true h1, decide_eq_true h2] at k
            exact absurd k (by decide)
          · simp -dsimp (disch := first | assumption | (refine OM.mk ?_; first | omega | (simp only [List.length_map, List.length_set, List.length_take] <;> omega)) | (simp -dsimp only [go_sem]; done) | fail) only [go_sem, ↓reduceIte, Nat.reduceEqDiff, Nat.reduceAdd, Nat.reduceSub, Nat.reduceMul, Nat.reduceLT, Nat.reduceLeDiff, reduceCtorEq, a_eq, a_neq, a_cast0, a_pred, a_app1, a_zero, Int.reduceToNat,  h1, h2]
        · simp -dsimp (disch := first | assumption | (refine OM.mk ?_; first | omega | (simp only [List.length_map, List.length_set, List.length_take] <;> omega)) | (simp -dsimp only [go_sem]; done) | fail) only [go_sem, ↓reduceIte, Nat.reduceEqDiff, Nat.reduceAdd, Nat.reduceSub, Nat.reduceMul, Nat.reduceLT, Nat.reduceLeDiff, reduceCtorEq, a_eq, a_neq, a_cast0, a_pred, a_app1, a_zero, Int.reduceToNat,  h1]
  · rw [if_pos rfl]
    unfold addOk at k
    simp only [Bool.and_eq_true, decide_eq_true_eq] at k
    obtain ⟨⟨⟨k1, k2⟩, e1⟩, e2⟩ := k
    have q1 := spec_MatrixOk_c a f hf ha
    have q2 := spec_MatrixOk_c b g hg hb
    rw [k1] at q1
    rw [k2] at q2
    obtain ⟨r, c, ga⟩ := MD.ok_good k1
    obtain ⟨r', c', gb⟩ := MD.ok_good k2
    have hrc := rc_le ga.r24 ga.c24
    have hlen : a.cells.length = b.cells.length := by
      rw [ga.len, gb.len]
      have i1 := ga.er; have i2 := ga.ec; have i3 := gb.er; have i4 := gb.ec
      rw [show r = r' by omega, show c = c' by omega]
    have hal := ga.len
    obtain ⟨x, ex, exr, _⟩ := all_list ga.all
    obtain ⟨y, ey, eyr, _⟩ := all_list gb.all
    have hxl : x.length = a.cells.length := by rw [ex, List.length_map]
    have hyl : y.length = x.length := by rw [hxl, hlen, ey, List.length_map]
    have hgx : ∀ k, k < x.length → a.cells.getD k RD.zero = qd (x.getD k FQ.bad) := fun k hk => by rw [ex]; exact getD_map_qd hk
    have hgy : ∀ k, k < x.length → b.cells.getD k RD.zero = qd (y.getD k FQ.bad) := fun k hk => by rw [ey]; exact getD_map_qd (by show k < y.length; omega)
    rw [exr, eyr]
    have hlo := zip_len (op := FQ.add) hyl.symm
    have hoi : ∀ i, i < x.length → (List.zipWith FQ.add x y).getD i FQ.bad = (x.getD i FQ.bad).add (y.getD i FQ.bad) := fun i hi => zip_get hi hyl.symm
    generalize List.zipWith FQ.add x y = o at *
    have q3 := l06Done_c a.rows a.cols o (by omega)
    obtain ⟨ar, ac, al⟩ := a
    obtain ⟨br, bc, bl⟩ := b
    simp only at *
    clear ex ey exr eyr
    subst e1 e2
    refine txe W_spec_AddMatrices ke_spec_AddMatrices [(9, [4])] [] [] (by kernel_rfl) ?_
    simp -dsimp (disch := first | assumption | (refine OM.mk ?_; first | omega | (simp only [List.length_map, List.length_set, List.length_take] <;> omega)) | (simp -dsimp only [go_sem]; done) | fail) only [go_sem, ↓reduceIte, Nat.reduceEqDiff, Nat.reduceAdd, Nat.reduceSub, Nat.reduceMul, Nat.reduceLT, Nat.reduceLeDiff, reduceCtorEq, a_eq, a_neq, a_cast0, a_pred, a_app1, a_zero, Int.reduceToNat]
    refine callP q1 (by simp -dsimp (disch := first | assumption | (simp -dsimp only [go_sem]; done) | fail) only [go_sem]) ?_
    simp -dsimp (disch := first | assumption | (refine OM.mk ?_; first | omega | (simp only [List.length_map, List.length_set, List.length_take] <;> omega)) | (simp -dsimp only [go_sem]; done) | fail) only [go_sem, ↓reduceIte, Nat.reduceEqDiff, Nat.reduceAdd, Nat.reduceSub, Nat.reduceMul, Nat.reduceLT, Nat.reduceLeDiff, reduceCtorEq, a_eq, a_neq, a_cast0, a_pred, a_app1, a_zero, Int.reduceToNat]
    refine callP q2 (by simp -dsimp (disch := first | assumption | (simp -dsimp only [go_sem]; done) | fail) only [go_sem]) ?_
    simp -dsimp (disch := first | assumption | (refine OM.mk ?_; first | omega | (simp only [List.length_map, List.length_set, List.length_take] <;> omega)) | (simp -dsimp only [go_sem]; done) | fail) only [go_sem, ↓reduceIte, Nat.reduceEqDiff, Nat.reduceAdd, Nat.reduceSub, Nat.reduceMul, Nat.reduceLT, Nat.reduceLeDiff, reduceCtorEq, a_eq, a_neq, a_cast0, a_pred, a_app1, a_zero, Int.reduceToNat]
    refine loopJ (fun k : Nat => k ≤ al.length) (fun k => ⟨[(3, .ref 1 0), (4, .ref 2 0), (6, .ref 3 0), (38, sR f al), (39, I al.length), (40, I k)], [⟨.dead, 0, []⟩, ⟨.own, T_impl_Matrix, [I ar, I ac, sR g bl]⟩, ⟨.own, T_impl_Matrix, [I 0, I 0, .emp]⟩, ⟨.own, T_impl_Matrix, [I ar, I ac, .rsl 4 3 0 k]⟩, ⟨.own, T_impl_Rat, rsC .s ((o.take k).map qd)⟩]⟩) (fun k => al.length - k) 0 (by omega) ?_ ?_
    · refine StI.ren [none, some 1, some 2, some 3, none] [[], [], [], [], []] (by simp -dsimp only [go_sem, ↓reduceIte, Nat.reduceEqDiff, Nat.reduceAdd, Nat.reduceSub, Nat.reduceMul, Nat.reduceLT, Nat.reduceLeDiff, reduceCtorEq]) (by decide) ?_ (by simp -dsimp (disch := first | assumption | (refine OM.mk ?_; first | omega | (simp only [List.length_map, List.length_set, List.length_take] <;> omega)) | (simp -dsimp only [go_sem]; done) | fail) only [go_sem, ↓reduceIte, Nat.reduceEqDiff, Nat.reduceAdd, Nat.reduceSub, Nat.reduceMul, Nat.reduceLT, Nat.reduceLeDiff, reduceCtorEq, a_eq, a_neq, a_cast0, a_pred, a_app1, a_zero, Int.reduceToNat])
      simp -dsimp (disch := first | assumption | (refine OM.mk ?_; first | omega | (simp only [List.length_map, List.length_set, List.length_take] <;> omega)) | (simp -dsimp only [go_sem]; done) | fail) only [go_sem, ↓reduceIte, Nat.reduceEqDiff, Nat.reduceAdd, Nat.reduceSub, Nat.reduceMul, Nat.reduceLT, Nat.reduceLeDiff, reduceCtorEq, a_eq, a_neq, a_cast0, a_pred, a_app1, a_zero, Int.reduceToNat]
    intro k hk
    by_cases h : k < al.length
    · have hgx := hgx k (by omega)
      have hgy := hgy k (by omega)
      simp -dsimp (disch := first | assumption | (refine OM.mk ?_; first | omega | (simp only [List.length_map, List.length_set, List.length_take] <;> omega)) | (simp -dsimp only [go_sem]; done) | fail) only [go_sem, ↓reduceIte, Nat.reduceEqDiff, Nat.reduceAdd, Nat.reduceSub, Nat.reduceMul, Nat.reduceLT, Nat.reduceLeDiff, reduceCtorEq, a_eq, a_neq, a_cast0, a_pred, a_app1, a_zero, Int.reduceToNat,  hgx, hgy]
      refine callP (l04Add_c f g hf hg (x.getD k FQ.bad) (y.getD k FQ.bad)) (by simp -dsimp (disch := first | assumption | (simp -dsimp only [go_sem]; done) | fail) only [go_sem]) ?_
      rw [← hoi k (by omega)]
      simp -dsimp (disch := first | assumption | (refine OM.mk ?_; first | omega | (simp only [List.length_map, List.length_set, List.length_take] <;> omega)) | (simp -dsimp only [go_sem]; done) | fail) only [go_sem, ↓reduceIte, Nat.reduceEqDiff, Nat.reduceAdd, Nat.reduceSub, Nat.reduceMul, Nat.reduceLT, Nat.reduceLeDiff, reduceCtorEq, a_eq, a_neq, a_cast0, a_pred, a_app1, a_zero, Int.reduceToNat]
      refine ⟨k + 1, by omega, by omega, StI.ren [none, some 1, some 2, some 3, some 6] [[], [], [], [], []] (by simp -dsimp only [go_sem, ↓reduceIte, Nat.reduceEqDiff, Nat.reduceAdd, Nat.reduceSub, Nat.reduceMul, Nat.reduceLT, Nat.reduceLeDiff, reduceCtorEq]) (by decide) (by rw [rs_push (by omega)]; simp -dsimp (disch := first | assumption | (refine OM.mk ?_; first | omega | (simp only [List.length_map, List.length_set, List.length_take] <;> omega)) | (simp -dsimp only [go_sem]; done) | fail) only [go_sem, ↓reduceIte, Nat.reduceEqDiff, Nat.reduceAdd, Nat.reduceSub, Nat.reduceMul, Nat.reduceLT, Nat.reduceLeDiff, reduceCtorEq, a_eq, a_neq, a_cast0, a_pred, a_app1, a_zero, Int.reduceToNat]) (by simp -dsimp (disch := first | assumption | (refine OM.mk ?_; first | omega | (simp only [List.length_map, List.length_set, List.length_take] <;> omega)) | (simp -dsimp only [go_sem]; done) | fail) only [go_sem, ↓reduceIte, Nat.reduceEqDiff, Nat.reduceAdd, Nat.reduceSub, Nat.reduceMul, Nat.reduceLT, Nat.reduceLeDiff, reduceCtorEq, a_eq, a_neq, a_cast0, a_pred, a_app1, a_zero, Int.reduceToNat])⟩
    · obtain rfl : k = al.length := by omega
      rw [show o.take al.length = o by rw [List.take_of_length_le (by omega)]]
      simp -dsimp (disch := first | assumption | (refine OM.mk ?_; first | omega | (simp only [List.length_map, List.length_set, List.length_take] <;> omega)) | (simp -dsimp only [go_sem]; done) | fail) only [go_sem, ↓reduceIte, Nat.reduceEqDiff, Nat.reduceAdd, Nat.reduceSub, Nat.reduceMul, Nat.reduceLT, Nat.reduceLeDiff, reduceCtorEq, a_eq, a_neq, a_cast0, a_pred, a_app1, a_zero, Int.reduceToNat]
      refine callP q3 (by simp -dsimp (disch := first | assumption | (refine OM.mk ?_; first | omega | (simp only [List.length_map, List.length_set, List.length_take] <;> omega)) | (simp -dsimp only [go_sem]; done) | fail) only [go_sem, ↓reduceIte, Nat.reduceEqDiff, Nat.reduceAdd, Nat.reduceSub, Nat.reduceMul, Nat.reduceLT, Nat.reduceLeDiff, reduceCtorEq, a_eq, a_neq, a_cast0, a_pred, a_app1, a_zero, Int.reduceToNat]) ?_
      simp -dsimp (disch := first | assumption | (refine OM.mk ?_; first | omega | (simp only [List.length_map, List.length_set, List.length_take] <;> omega)) | (simp -dsimp only [go_sem]; done) | fail) only [go_sem, ↓reduceIte, Nat.reduceEqDiff, Nat.reduceAdd, Nat.reduceSub, Nat.reduceMul, Nat.reduceLT, Nat.reduceLeDiff, reduceCtorEq, a_eq, a_neq, a_cast0, a_pred, a_app1, a_zero, Int.reduceToNat]
end Go.Proofs.Ytkllbcfhkhfniaa
