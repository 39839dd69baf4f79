/- part of the proof -/
import Derived.Test.YtikmepdhpffdoaaGreatTXs
namespace Go.Proofs.YtikmepdhpffdoaaGreat
open Go Go.RowKit
set_option maxRecDepth 100000
set_option maxHeartbeats 4000000
set_option linter.unusedVariables false
set_option linter.unusedSimpArgs false
noncomputable def detN (r : Nat) (M : Nat → Nat → FQ) : FQ := if allG (gridL r r (refTo r r M r).M) = true then (if (refTo r r M r).piv.length < r then FQ.ofInt 0 else prodQ (refTo r r M r).fac) else FQ.bad
noncomputable def detQ (m : MD) : FQ := if (m.ok && decide (m.rows = m.cols)) = true then detN m.rows.toNat (m.at m.rows.toNat) else FQ.bad
theorem detQ_no {m : MD} (h : (m.ok && decide (m.rows = m.cols)) = false) : detQ m = FQ.bad := by
  unfold detQ; rw [h]; rfl
theorem detQ_ok {m : MD} {r : Nat} (ho : m.ok = true) (hg : m.Good r r) : detQ m = detN r (m.at r) := by
  unfold detQ
  rw [ho, decide_eq_true (show m.rows = m.cols by rw [hg.er, hg.ec]), hg.er]; rfl
theorem prodQ_take {l : List FQ} {k : Nat} (h : k < l.length) : prodQ (l.take (k + 1)) = (prodQ (l.take k)).mul (l.getD k FQ.bad) := by
  rw [List.take_succ_eq_append_getElem h, prodQ_app, List.getD_eq_getElem?_getD, List.getElem?_eq_getElem h, Option.getD_some]
theorem refTo_fac {n c : Nat} {M : Nat → Nat → FQ} : ∀ {k : Nat}, (refTo n c M k).fac.length ≤ 2 * k
  | 0 => by simp [refTo]
  | k + 1 => by
    have ih := refTo_fac (n := n) (c := c) (M := M) (k := k)
    show (if _ then _ else _ : SS).fac.length ≤ _
    split
    · unfold refStep
      split
      · exact Nat.le_trans ih (by omega)
      · show (_ ++ [_] : List FQ).length ≤ _
        rw [List.length_append]
        split
        · show (refTo n c M k).fac.length + 1 ≤ _; omega
        · rw [List.length_append]; show (refTo n c M k).fac.length + 1 + 1 ≤ _; omega
    · omega
theorem ofInt0_good : (FQ.ofInt 0).good = true := ofInt_good (by omega)
theorem spec_Determinant_c (m : MD) (f : Fl) (hf : f ≠ .u) (hs : smallL m.cells) : PC PP F_spec_Determinant [mtV f m] (toS (detQ m)) [] := by
  refine txe W_spec_Determinant ke_spec_Determinant [] [] [4] (by kernel_rfl) ?_
  simp -dsimp (disch:=first|assumption|(refine OM.mk ?_;first|omega|(simp only [List.length_map,List.length_set,List.length_take]<;>omega))|(simp -dsimp only [go_sem];done)|fail) only [go_sem,↓reduceIte,Nat.reduceEqDiff,Nat.reduceAdd,Nat.reduceSub,Nat.reduceMul,Nat.reduceLT,Nat.reduceLeDiff,reduceCtorEq,a_eq,a_neq,a_cast0,a_pred,a_app1,a_zero,Int.reduceToNat]
  refine callP (spec_MatrixOk_c m f hf hs) (by simp -dsimp (disch:=first|assumption|(simp -dsimp only [go_sem];done)|fail) only [go_sem]) ?_
  cases ho : m.ok
  · rw [detQ_no (by rw [ho]; rfl), toS_bad]
    simp -dsimp (disch:=first|assumption|(refine OM.mk ?_;first|omega|(simp only [List.length_map,List.length_set,List.length_take]<;>omega))|(simp -dsimp only [go_sem];done)|fail) only [go_sem,↓reduceIte,Nat.reduceEqDiff,Nat.reduceAdd,Nat.reduceSub,Nat.reduceMul,Nat.reduceLT,Nat.reduceLeDiff,reduceCtorEq,a_eq,a_neq,a_cast0,a_pred,a_app1,a_zero,Int.reduceToNat]
  · by_cases h : m.rows = m.cols
    · obtain ⟨r, c, hg⟩ := MD.ok_good ho
      obtain rfl : r = c := by have := hg.er; have := hg.ec; omega
      rw [detQ_ok ho hg]
      have h24 := hg.r24
      have q := l06Copy_g m f hf hs
      have qr := l07Reduce_g r r h24 (by omega) (m.at r)
      rw [cells_at hg] at qr
      have hl := hg.len
      have hr := hg.er
      have hc := hg.ec
      have hfl := refTo_fac (n := r) (c := r) (M := m.at r) (k := r)
      unfold detN
      generalize refTo r r (m.at r) r = T at *
      simp -dsimp (disch:=first|assumption|(refine OM.mk ?_;first|omega|(simp only [List.length_map,List.length_set,List.length_take]<;>omega))|(simp -dsimp only [go_sem];done)|fail) only [go_sem,↓reduceIte,Nat.reduceEqDiff,Nat.reduceAdd,Nat.reduceSub,Nat.reduceMul,Nat.reduceLT,Nat.reduceLeDiff,reduceCtorEq,a_eq,a_neq,a_cast0,a_pred,a_app1,a_zero,Int.reduceToNat, hr, hc]
      refine callO' q (by simp -dsimp (disch:=first|assumption|(refine OM.mk ?_;first|omega|(simp only [List.length_map,List.length_set,List.length_take]<;>omega))|(simp -dsimp only [go_sem];done)|fail) only [go_sem,↓reduceIte,Nat.reduceEqDiff,Nat.reduceAdd,Nat.reduceSub,Nat.reduceMul,Nat.reduceLT,Nat.reduceLeDiff,reduceCtorEq,a_eq,a_neq,a_cast0,a_pred,a_app1,a_zero,Int.reduceToNat, hr, hc]) (by simp -dsimp only [go_sem,↓reduceIte,Nat.reduceEqDiff,Nat.reduceAdd,Nat.reduceSub,Nat.reduceMul,Nat.reduceLT,Nat.reduceLeDiff,reduceCtorEq, List.forall_mem_cons, List.not_mem_nil, false_implies, implies_true]) ?_
      simp -dsimp (disch:=first|assumption|(refine OM.mk ?_;first|omega|(simp only [List.length_map,List.length_set,List.length_take]<;>omega))|(simp -dsimp only [go_sem];done)|fail) only [go_sem,↓reduceIte,Nat.reduceEqDiff,Nat.reduceAdd,Nat.reduceSub,Nat.reduceMul,Nat.reduceLT,Nat.reduceLeDiff,reduceCtorEq,a_eq,a_neq,a_cast0,a_pred,a_app1,a_zero,Int.reduceToNat, hr, hc, hl]
      refine callG' [2] qr (by decide) (by simp -dsimp (disch:=first|assumption|(simp -dsimp only [go_sem];done)|fail) only [go_sem]) (by simp -dsimp (disch:=first|assumption|(simp -dsimp only [go_sem];done)|fail) only [go_sem]) (by simp -dsimp only [go_sem,↓reduceIte,Nat.reduceEqDiff,Nat.reduceAdd,Nat.reduceSub,Nat.reduceMul,Nat.reduceLT,Nat.reduceLeDiff,reduceCtorEq]) (by simp -dsimp only [go_sem,↓reduceIte,Nat.reduceEqDiff,Nat.reduceAdd,Nat.reduceSub,Nat.reduceMul,Nat.reduceLT,Nat.reduceLeDiff,reduceCtorEq, List.forall_mem_cons, List.not_mem_nil, false_implies, implies_true]) ?_
      simp -dsimp (disch:=first|assumption|(refine OM.mk ?_;first|omega|(simp only [List.length_map,List.length_set,List.length_take]<;>omega))|(simp -dsimp only [go_sem];done)|fail) only [go_sem,↓reduceIte,Nat.reduceEqDiff,Nat.reduceAdd,Nat.reduceSub,Nat.reduceMul,Nat.reduceLT,Nat.reduceLeDiff,reduceCtorEq,a_eq,a_neq,a_cast0,a_pred,a_app1,a_zero,Int.reduceToNat]
      have hll : (gridL r r T.M).length ≤ 1048576 := by rw [gridL_length]; have := Nat.mul_le_mul h24 h24; omega
      refine callP (l05Fine_c .b flb (gridL r r T.M) hll) (.cons _ _ _ _ (le_ownSB rfl (by rw [List.length_map, gridL_length])) .nil) ?_
      cases ha : allG (gridL r r T.M)
      · rw [if_neg (by decide), toS_bad]
        simp -dsimp (disch:=first|assumption|(refine OM.mk ?_;first|omega|(simp only [List.length_map,List.length_set,List.length_take]<;>omega))|(simp -dsimp only [go_sem];done)|fail) only [go_sem,↓reduceIte,Nat.reduceEqDiff,Nat.reduceAdd,Nat.reduceSub,Nat.reduceMul,Nat.reduceLT,Nat.reduceLeDiff,reduceCtorEq,a_eq,a_neq,a_cast0,a_pred,a_app1,a_zero,Int.reduceToNat]
      · rw [if_pos rfl]
        by_cases hp : T.piv.length < r
        · rw [if_pos hp]
          simp -dsimp (disch:=first|assumption|(refine OM.mk ?_;first|omega|(simp only [List.length_map,List.length_set,List.length_take]<;>omega))|(simp -dsimp only [go_sem];done)|fail) only [go_sem,↓reduceIte,Nat.reduceEqDiff,Nat.reduceAdd,Nat.reduceSub,Nat.reduceMul,Nat.reduceLT,Nat.reduceLeDiff,reduceCtorEq,a_eq,a_neq,a_cast0,a_pred,a_app1,a_zero,Int.reduceToNat, hr]
          refine callP l05Zero_c (by simp -dsimp (disch:=first|assumption|(simp -dsimp only [go_sem];done)|fail) only [go_sem]) ?_
          simp -dsimp (disch:=first|assumption|(refine OM.mk ?_;first|omega|(simp only [List.length_map,List.length_set,List.length_take]<;>omega))|(simp -dsimp only [go_sem];done)|fail) only [go_sem,↓reduceIte,Nat.reduceEqDiff,Nat.reduceAdd,Nat.reduceSub,Nat.reduceMul,Nat.reduceLT,Nat.reduceLeDiff,reduceCtorEq,a_eq,a_neq,a_cast0,a_pred,a_app1,a_zero,Int.reduceToNat, ofInt0_good]
        · rw [if_neg hp]
          have hlx : (T.fac.map qd).length = T.fac.length := List.length_map _
          simp -dsimp (disch:=first|assumption|(refine OM.mk ?_;first|omega|(simp only [List.length_map,List.length_set,List.length_take]<;>omega))|(simp -dsimp only [go_sem];done)|fail) only [go_sem,↓reduceIte,Nat.reduceEqDiff,Nat.reduceAdd,Nat.reduceSub,Nat.reduceMul,Nat.reduceLT,Nat.reduceLeDiff,reduceCtorEq,a_eq,a_neq,a_cast0,a_pred,a_app1,a_zero,Int.reduceToNat, hr]
          refine callP (spec_RatFromInt_c 1 (by omega)) (by simp -dsimp (disch:=first|assumption|(simp -dsimp only [go_sem];done)|fail) only [go_sem]) ?_
          simp -dsimp (disch:=first|assumption|(refine OM.mk ?_;first|omega|(simp only [List.length_map,List.length_set,List.length_take]<;>omega))|(simp -dsimp only [go_sem];done)|fail) only [go_sem,↓reduceIte,Nat.reduceEqDiff,Nat.reduceAdd,Nat.reduceSub,Nat.reduceMul,Nat.reduceLT,Nat.reduceLeDiff,reduceCtorEq,a_eq,a_neq,a_cast0,a_pred,a_app1,a_zero,Int.reduceToNat]
          refine loopJ (fun k : Nat => k ≤ T.fac.length) (fun k => ⟨[(2, .ref 0 0), (7, .ref 1 0), (40, sR .s (T.fac.map qd)), (41, I T.fac.length), (42, I k)], [⟨.own, T_impl_Rat, [.lit (.bool false), .emp, .emp]⟩, ⟨.own, T_impl_Rat, rdC .s (qd (prodQ (T.fac.take k)))⟩]⟩) (fun k => T.fac.length - k) 0 (by omega) ?_ ?_
          · exact StI.ren [some 1, some 5] [[], []] (by simp -dsimp only [go_sem,↓reduceIte,Nat.reduceEqDiff,Nat.reduceAdd,Nat.reduceSub,Nat.reduceMul,Nat.reduceLT,Nat.reduceLeDiff,reduceCtorEq]) (by decide) (by simp -dsimp (disch:=first|assumption|(refine OM.mk ?_;first|omega|(simp only [List.length_map,List.length_set,List.length_take]<;>omega))|(simp -dsimp only [go_sem];done)|fail) only [go_sem,↓reduceIte,Nat.reduceEqDiff,Nat.reduceAdd,Nat.reduceSub,Nat.reduceMul,Nat.reduceLT,Nat.reduceLeDiff,reduceCtorEq,a_eq,a_neq,a_cast0,a_pred,a_app1,a_zero,Int.reduceToNat]; exact ⟨rfl, ⟨rfl, rfl⟩, rfl, rfl⟩) (by simp -dsimp (disch:=first|assumption|(refine OM.mk ?_;first|omega|(simp only [List.length_map,List.length_set,List.length_take]<;>omega))|(simp -dsimp only [go_sem];done)|fail) only [go_sem,↓reduceIte,Nat.reduceEqDiff,Nat.reduceAdd,Nat.reduceSub,Nat.reduceMul,Nat.reduceLT,Nat.reduceLeDiff,reduceCtorEq,a_eq,a_neq,a_cast0,a_pred,a_app1,a_zero,Int.reduceToNat])
          intro k hk
          by_cases h : k < T.fac.length
          · have hgx : (T.fac.map qd).getD k RD.zero = qd (T.fac.getD k FQ.bad) := getD_map_qd h
            have hs := prodQ_take h
            generalize hS' : prodQ (T.fac.take (k + 1)) = S' at *
            generalize prodQ (T.fac.take k) = S at *
            simp -dsimp (disch:=first|assumption|(refine OM.mk ?_;first|omega|(simp only [List.length_map,List.length_set,List.length_take]<;>omega))|(simp -dsimp only [go_sem];done)|fail) only [go_sem,↓reduceIte,Nat.reduceEqDiff,Nat.reduceAdd,Nat.reduceSub,Nat.reduceMul,Nat.reduceLT,Nat.reduceLeDiff,reduceCtorEq,a_eq,a_neq,a_cast0,a_pred,a_app1,a_zero,Int.reduceToNat, hgx]
            refine callP (l04Mul_c .s .s fls fls S (T.fac.getD k FQ.bad)) (by simp -dsimp (disch:=first|assumption|(simp -dsimp only [go_sem];done)|fail) only [go_sem]) ?_
            rw [← hs]
            simp -dsimp (disch:=first|assumption|(refine OM.mk ?_;first|omega|(simp only [List.length_map,List.length_set,List.length_take]<;>omega))|(simp -dsimp only [go_sem];done)|fail) only [go_sem,↓reduceIte,Nat.reduceEqDiff,Nat.reduceAdd,Nat.reduceSub,Nat.reduceMul,Nat.reduceLT,Nat.reduceLeDiff,reduceCtorEq,a_eq,a_neq,a_cast0,a_pred,a_app1,a_zero,Int.reduceToNat]
            refine ⟨k + 1, by omega, by omega, ?_⟩
            rw [hS']
            exact StI.ren [some 0, some 1] [[], []] (by simp -dsimp only [go_sem,↓reduceIte,Nat.reduceEqDiff,Nat.reduceAdd,Nat.reduceSub,Nat.reduceMul,Nat.reduceLT,Nat.reduceLeDiff,reduceCtorEq]) (by decide) (by simp -dsimp (disch:=first|assumption|(refine OM.mk ?_;first|omega|(simp only [List.length_map,List.length_set,List.length_take]<;>omega))|(simp -dsimp only [go_sem];done)|fail) only [go_sem,↓reduceIte,Nat.reduceEqDiff,Nat.reduceAdd,Nat.reduceSub,Nat.reduceMul,Nat.reduceLT,Nat.reduceLeDiff,reduceCtorEq,a_eq,a_neq,a_cast0,a_pred,a_app1,a_zero,Int.reduceToNat]) (by simp -dsimp (disch:=first|assumption|(refine OM.mk ?_;first|omega|(simp only [List.length_map,List.length_set,List.length_take]<;>omega))|(simp -dsimp only [go_sem];done)|fail) only [go_sem,↓reduceIte,Nat.reduceEqDiff,Nat.reduceAdd,Nat.reduceSub,Nat.reduceMul,Nat.reduceLT,Nat.reduceLeDiff,reduceCtorEq,a_eq,a_neq,a_cast0,a_pred,a_app1,a_zero,Int.reduceToNat])
          · obtain rfl : k = T.fac.length := by omega
            rw [List.take_length]
            simp -dsimp (disch:=first|assumption|(refine OM.mk ?_;first|omega|(simp only [List.length_map,List.length_set,List.length_take]<;>omega))|(simp -dsimp only [go_sem];done)|fail) only [go_sem,↓reduceIte,Nat.reduceEqDiff,Nat.reduceAdd,Nat.reduceSub,Nat.reduceMul,Nat.reduceLT,Nat.reduceLeDiff,reduceCtorEq,a_eq,a_neq,a_cast0,a_pred,a_app1,a_zero,Int.reduceToNat]
            refine callP (l05Bad_c .s fls (prodQ T.fac)) (by simp -dsimp (disch:=first|assumption|(simp -dsimp only [go_sem];done)|fail) only [go_sem]) ?_
            simp -dsimp (disch:=first|assumption|(refine OM.mk ?_;first|omega|(simp only [List.length_map,List.length_set,List.length_take]<;>omega))|(simp -dsimp only [go_sem];done)|fail) only [go_sem,↓reduceIte,Nat.reduceEqDiff,Nat.reduceAdd,Nat.reduceSub,Nat.reduceMul,Nat.reduceLT,Nat.reduceLeDiff,reduceCtorEq,a_eq,a_neq,a_cast0,a_pred,a_app1,a_zero,Int.reduceToNat, Bool.not_not]
    · rw [detQ_no (by rw [ho, decide_eq_false h]; rfl), toS_bad]
      simp -dsimp (disch:=first|assumption|(refine OM.mk ?_;first|omega|(simp only [List.length_map,List.length_set,List.length_take]<;>omega))|(simp -dsimp only [go_sem];done)|fail) only [go_sem,↓reduceIte,Nat.reduceEqDiff,Nat.reduceAdd,Nat.reduceSub,Nat.reduceMul,Nat.reduceLT,Nat.reduceLeDiff,reduceCtorEq,a_eq,a_neq,a_cast0,a_pred,a_app1,a_zero,Int.reduceToNat, h]
theorem RatFromInt_g (n : Int) (hn : -9223372036854775807 ≤ n ∧ n ≤ 9223372036854775807) : GC PP F_impl_RatFromInt [I n] [] (rO (qd (FQ.ofInt n))) (rH (qd (FQ.ofInt n))) := by
  refine txg W_impl_RatFromInt ke_impl_RatFromInt 0 [] [] [] rfl (by kernel_rfl) ?_
  simp -dsimp (disch:=first|assumption|(refine OM.mk ?_;first|omega|(simp only [List.length_map,List.length_set,List.length_take]<;>omega))|(simp -dsimp only [go_sem];done)|fail) only [go_sem,↓reduceIte,Nat.reduceEqDiff,Nat.reduceAdd,Nat.reduceSub,Nat.reduceMul,Nat.reduceLT,Nat.reduceLeDiff,reduceCtorEq,a_eq,a_neq,a_cast0,a_pred,a_app1,a_zero,Int.reduceToNat]
  refine callP (whole_c n hn) (by simp -dsimp (disch:=first|assumption|(simp -dsimp only [go_sem];done)|fail) only [go_sem]) ?_
  simp -dsimp (disch:=first|assumption|(refine OM.mk ?_;first|omega|(simp only [List.length_map,List.length_set,List.length_take]<;>omega))|(simp -dsimp only [go_sem];done)|fail) only [go_sem,↓reduceIte,Nat.reduceEqDiff,Nat.reduceAdd,Nat.reduceSub,Nat.reduceMul,Nat.reduceLT,Nat.reduceLeDiff,reduceCtorEq,a_eq,a_neq,a_cast0,a_pred,a_app1,a_zero,Int.reduceToNat]
  refine callO' (store_g .s fls (FQ.ofInt n)) (by simp -dsimp (disch:=first|assumption|(simp -dsimp only [go_sem];done)|fail) only [go_sem]) (by simp -dsimp only [go_sem,↓reduceIte,Nat.reduceEqDiff,Nat.reduceAdd,Nat.reduceSub,Nat.reduceMul,Nat.reduceLT,Nat.reduceLeDiff,reduceCtorEq, List.forall_mem_cons, List.not_mem_nil, false_implies, implies_true]) ?_
  simp -dsimp (disch:=first|assumption|(refine OM.mk ?_;first|omega|(simp only [List.length_map,List.length_set,List.length_take]<;>omega))|(simp -dsimp only [go_sem];done)|fail) only [go_sem,↓reduceIte,Nat.reduceEqDiff,Nat.reduceAdd,Nat.reduceSub,Nat.reduceMul,Nat.reduceLT,Nat.reduceLeDiff,reduceCtorEq,a_eq,a_neq,a_cast0,a_pred,a_app1,a_zero,Int.reduceToNat]
  exact RtG.nothing [some 1, some 2] (by simp -dsimp only [go_sem,↓reduceIte,Nat.reduceEqDiff,Nat.reduceAdd,Nat.reduceSub,Nat.reduceMul,Nat.reduceLT,Nat.reduceLeDiff,reduceCtorEq]) (by decide) (by simp -dsimp only [go_sem,↓reduceIte,Nat.reduceEqDiff,Nat.reduceAdd,Nat.reduceSub,Nat.reduceMul,Nat.reduceLT,Nat.reduceLeDiff,reduceCtorEq, List.map_cons, List.map_nil]) (by simp -dsimp only [go_sem,↓reduceIte,Nat.reduceEqDiff,Nat.reduceAdd,Nat.reduceSub,Nat.reduceMul,Nat.reduceLT,Nat.reduceLeDiff,reduceCtorEq])
theorem impl_Determinant_g (m : MD) (f : Fl) (hf : f ≠ .u) (hs : smallL m.cells) : GC PP F_impl_Determinant [mtV f m] [] (toO (detQ m)) (rH (qd (detQ m))) := by
  refine txg W_impl_Determinant ke_impl_Determinant 0 [] [] [] rfl (by kernel_rfl) ?_
  simp -dsimp (disch:=first|assumption|(refine OM.mk ?_;first|omega|(simp only [List.length_map,List.length_set,List.length_take]<;>omega))|(simp -dsimp only [go_sem];done)|fail) only [go_sem,↓reduceIte,Nat.reduceEqDiff,Nat.reduceAdd,Nat.reduceSub,Nat.reduceMul,Nat.reduceLT,Nat.reduceLeDiff,reduceCtorEq,a_eq,a_neq,a_cast0,a_pred,a_app1,a_zero,Int.reduceToNat]
  cases ho : m.ok
  · rw [detQ_no (by rw [ho]; rfl)]
    refine callB' (open_no m f hf ho hs) (by simp [V.fl2, V.fl1, rdC]) (by simp -dsimp only [go_sem,↓reduceIte,Nat.reduceEqDiff,Nat.reduceAdd,Nat.reduceSub,Nat.reduceMul,Nat.reduceLT,Nat.reduceLeDiff,reduceCtorEq, List.forall_mem_cons, List.not_mem_nil, false_implies, implies_true]) ?_
    simp -dsimp (disch:=first|assumption|(refine OM.mk ?_;first|omega|(simp only [List.length_map,List.length_set,List.length_take]<;>omega))|(simp -dsimp only [go_sem];done)|fail) only [go_sem,↓reduceIte,Nat.reduceEqDiff,Nat.reduceAdd,Nat.reduceSub,Nat.reduceMul,Nat.reduceLT,Nat.reduceLeDiff,reduceCtorEq,a_eq,a_neq,a_cast0,a_pred,a_app1,a_zero,Int.reduceToNat]
    exact rtG_noT
  · obtain ⟨r, c, hg⟩ := MD.ok_good ho
    refine callB' (open_ok m f hf r c hg hs) (by simp [V.fl2, V.fl1, rdC]) (by simp -dsimp only [go_sem,↓reduceIte,Nat.reduceEqDiff,Nat.reduceAdd,Nat.reduceSub,Nat.reduceMul,Nat.reduceLT,Nat.reduceLeDiff,reduceCtorEq, List.forall_mem_cons, List.not_mem_nil, false_implies, implies_true]) ?_
    by_cases h : r = c
    · subst h
      rw [detQ_ok ho hg]
      have h24 := hg.r24
      have hgd : ∀ i j, i < r → j < r → (m.at r i j).good = true := fun i j hi hj => (MD.at_ok hg hi hj).1
      have q := reduce_b r r h24 (by omega) (m.at r) hgd
      unfold detN
      rcases to_same hgd (Nat.le_refl r) with ⟨a, e, hS⟩ | ⟨e, h1, h2⟩
      · rw [e] at q
        replace q : PB PP F_impl_grid_reduce [gV .b r r (m.at r)] (.tup [.agg [I r, I r, .sl .b 1 r (gC .b .b r r a.M), .rsl 0 1 0 a.piv.length, pQ .b a.det], Bo true]) [⟨.own, T_int, iC a.piv⟩] := q
        have hcl : gridL r r (refTo r r (m.at r) r).M = gridL r r a.M := gridL_congr fun i j hi hj => (hS.m i j hi hj).symm
        have hal : allG (gridL r r a.M) = true := gridL_all fun i j hi hj => hS.good i j hi hj
        rw [hcl, if_pos hal, ← hS.piv, ← hS.det]
        have hpl := hS.pl
        generalize a.det = D at *
        simp -dsimp (disch:=first|assumption|(refine OM.mk ?_;first|omega|(simp only [List.length_map,List.length_set,List.length_take]<;>omega))|(simp -dsimp only [go_sem];done)|fail) only [go_sem,↓reduceIte,Nat.reduceEqDiff,Nat.reduceAdd,Nat.reduceSub,Nat.reduceMul,Nat.reduceLT,Nat.reduceLeDiff,reduceCtorEq,a_eq,a_neq,a_cast0,a_pred,a_app1,a_zero,Int.reduceToNat]
        refine callB' q (by simp [V.fl2, V.fl1, rdC]) (by simp -dsimp only [go_sem,↓reduceIte,Nat.reduceEqDiff,Nat.reduceAdd,Nat.reduceSub,Nat.reduceMul,Nat.reduceLT,Nat.reduceLeDiff,reduceCtorEq, List.forall_mem_cons, List.not_mem_nil, false_implies, implies_true]) ?_
        by_cases hp : a.piv.length < r
        · rw [if_pos hp]
          simp -dsimp (disch:=first|assumption|(refine OM.mk ?_;first|omega|(simp only [List.length_map,List.length_set,List.length_take]<;>omega))|(simp -dsimp only [go_sem];done)|fail) only [go_sem,↓reduceIte,Nat.reduceEqDiff,Nat.reduceAdd,Nat.reduceSub,Nat.reduceMul,Nat.reduceLT,Nat.reduceLeDiff,reduceCtorEq,a_eq,a_neq,a_cast0,a_pred,a_app1,a_zero,Int.reduceToNat]
          refine callO' (RatFromInt_g 0 (by omega)) (by simp -dsimp (disch:=first|assumption|(simp -dsimp only [go_sem];done)|fail) only [go_sem]) (by simp -dsimp only [go_sem,↓reduceIte,Nat.reduceEqDiff,Nat.reduceAdd,Nat.reduceSub,Nat.reduceMul,Nat.reduceLT,Nat.reduceLeDiff,reduceCtorEq, List.forall_mem_cons, List.not_mem_nil, false_implies, implies_true]) ?_
          simp -dsimp (disch:=first|assumption|(refine OM.mk ?_;first|omega|(simp only [List.length_map,List.length_set,List.length_take]<;>omega))|(simp -dsimp only [go_sem];done)|fail) only [go_sem,↓reduceIte,Nat.reduceEqDiff,Nat.reduceAdd,Nat.reduceSub,Nat.reduceMul,Nat.reduceLT,Nat.reduceLeDiff,reduceCtorEq,a_eq,a_neq,a_cast0,a_pred,a_app1,a_zero,Int.reduceToNat]
          show RtG 0 _ _ (.tup [rO (qd (FQ.ofInt 0)), Bo (FQ.ofInt 0).good]) _
          rw [ofInt0_good]
          exact RtG.nothing [some 5, some 6] (by simp -dsimp only [go_sem,↓reduceIte,Nat.reduceEqDiff,Nat.reduceAdd,Nat.reduceSub,Nat.reduceMul,Nat.reduceLT,Nat.reduceLeDiff,reduceCtorEq]) (by decide) (by simp -dsimp only [go_sem,↓reduceIte,Nat.reduceEqDiff,Nat.reduceAdd,Nat.reduceSub,Nat.reduceMul,Nat.reduceLT,Nat.reduceLeDiff,reduceCtorEq, List.map_cons, List.map_nil]) (by simp -dsimp only [go_sem,↓reduceIte,Nat.reduceEqDiff,Nat.reduceAdd,Nat.reduceSub,Nat.reduceMul,Nat.reduceLT,Nat.reduceLeDiff,reduceCtorEq])
        · rw [if_neg hp]
          simp -dsimp (disch:=first|assumption|(refine OM.mk ?_;first|omega|(simp only [List.length_map,List.length_set,List.length_take]<;>omega))|(simp -dsimp only [go_sem];done)|fail) only [go_sem,↓reduceIte,Nat.reduceEqDiff,Nat.reduceAdd,Nat.reduceSub,Nat.reduceMul,Nat.reduceLT,Nat.reduceLeDiff,reduceCtorEq,a_eq,a_neq,a_cast0,a_pred,a_app1,a_zero,Int.reduceToNat]
          refine callO' (told_g .b flb D) (by simp -dsimp (disch:=first|assumption|(simp -dsimp only [go_sem];done)|fail) only [go_sem]) (by simp -dsimp only [go_sem,↓reduceIte,Nat.reduceEqDiff,Nat.reduceAdd,Nat.reduceSub,Nat.reduceMul,Nat.reduceLT,Nat.reduceLeDiff,reduceCtorEq, List.forall_mem_cons, List.not_mem_nil, false_implies, implies_true]) ?_
          simp -dsimp (disch:=first|assumption|(refine OM.mk ?_;first|omega|(simp only [List.length_map,List.length_set,List.length_take]<;>omega))|(simp -dsimp only [go_sem];done)|fail) only [go_sem,↓reduceIte,Nat.reduceEqDiff,Nat.reduceAdd,Nat.reduceSub,Nat.reduceMul,Nat.reduceLT,Nat.reduceLeDiff,reduceCtorEq,a_eq,a_neq,a_cast0,a_pred,a_app1,a_zero,Int.reduceToNat]
          exact RtG.nothing [some 5, some 6] (by simp -dsimp only [go_sem,↓reduceIte,Nat.reduceEqDiff,Nat.reduceAdd,Nat.reduceSub,Nat.reduceMul,Nat.reduceLT,Nat.reduceLeDiff,reduceCtorEq]) (by decide) (by simp -dsimp only [go_sem,↓reduceIte,Nat.reduceEqDiff,Nat.reduceAdd,Nat.reduceSub,Nat.reduceMul,Nat.reduceLT,Nat.reduceLeDiff,reduceCtorEq, List.map_cons, List.map_nil]) (by simp -dsimp only [go_sem,↓reduceIte,Nat.reduceEqDiff,Nat.reduceAdd,Nat.reduceSub,Nat.reduceMul,Nat.reduceLT,Nat.reduceLeDiff,reduceCtorEq])
      · rw [e] at q
        replace q : PB PP F_impl_grid_reduce [gV .b r r (m.at r)] (.tup [.agg [I 0, I 0, .emp, .emp, .lit (.pointer none)], Bo false]) [] := q
        rw [h2, if_neg (by decide)]
        simp -dsimp (disch:=first|assumption|(refine OM.mk ?_;first|omega|(simp only [List.length_map,List.length_set,List.length_take]<;>omega))|(simp -dsimp only [go_sem];done)|fail) only [go_sem,↓reduceIte,Nat.reduceEqDiff,Nat.reduceAdd,Nat.reduceSub,Nat.reduceMul,Nat.reduceLT,Nat.reduceLeDiff,reduceCtorEq,a_eq,a_neq,a_cast0,a_pred,a_app1,a_zero,Int.reduceToNat]
        refine callB' q (by simp [V.fl2, V.fl1, rdC]) (by simp -dsimp only [go_sem,↓reduceIte,Nat.reduceEqDiff,Nat.reduceAdd,Nat.reduceSub,Nat.reduceMul,Nat.reduceLT,Nat.reduceLeDiff,reduceCtorEq, List.forall_mem_cons, List.not_mem_nil, false_implies, implies_true]) ?_
        simp -dsimp (disch:=first|assumption|(refine OM.mk ?_;first|omega|(simp only [List.length_map,List.length_set,List.length_take]<;>omega))|(simp -dsimp only [go_sem];done)|fail) only [go_sem,↓reduceIte,Nat.reduceEqDiff,Nat.reduceAdd,Nat.reduceSub,Nat.reduceMul,Nat.reduceLT,Nat.reduceLeDiff,reduceCtorEq,a_eq,a_neq,a_cast0,a_pred,a_app1,a_zero,Int.reduceToNat]
        exact rtG_noT
    · rw [detQ_no (by rw [ho, decide_eq_false (by rw [hg.er, hg.ec]; omega)]; rfl)]
      simp -dsimp (disch:=first|assumption|(refine OM.mk ?_;first|omega|(simp only [List.length_map,List.length_set,List.length_take]<;>omega))|(simp -dsimp only [go_sem];done)|fail) only [go_sem,↓reduceIte,Nat.reduceEqDiff,Nat.reduceAdd,Nat.reduceSub,Nat.reduceMul,Nat.reduceLT,Nat.reduceLeDiff,reduceCtorEq,a_eq,a_neq,a_cast0,a_pred,a_app1,a_zero,Int.reduceToNat]
      exact rtG_noT
end Go.Proofs.YtikmepdhpffdoaaGreat
