/- part of the proof -/
import Derived.Test.YtpmjjdhnacmphaaTMy
namespace Go.Proofs.Ytpmjjdhnacmphaa
open Go Go.RowKit
set_option maxRecDepth 100000
set_option maxHeartbeats 4000000
set_option linter.unusedVariables false
set_option linter.unusedSimpArgs false
theorem ro_share (r : RD) : RtG 0 (rH r) (rO r) (rV .s r) [] := by
  refine RtG.share 0 (cs' := iC r.mag) rfl lW LeL.lits lW (RtG.share 1 (cs' := iC r.den) rfl lW LeL.lits lW ?_)
  have e1 := Rn.rslI (H := ((rH r).set 0 ⟨.frz, T_int, iC r.mag⟩).set 1 ⟨.frz, T_int, iC r.den⟩) (js := []) (bk := false) (id := 0) (ty := T_int) (l := r.mag) rfl (Nat.le_refl _)
  have e2 := Rn.rslI (H := ((rH r).set 0 ⟨.frz, T_int, iC r.mag⟩).set 1 ⟨.frz, T_int, iC r.den⟩) (js := []) (bk := false) (id := 1) (ty := T_int) (l := r.den) rfl (Nat.le_refl _)
  rw [List.take_length] at e1 e2
  exact RtG.nothing [] trivial (by decide) lW (.agg _ _ _ _ _ (.cons _ _ _ _ _ _ [] [] (.same _ _ _ trivial (fun _ => trivial)) (.cons _ _ _ _ _ _ [] [] e1 (.cons _ _ _ _ _ _ [] [] e2 (.nil _ _)))))
theorem impl_RatFromInt_c (n : Int) (hn : -9223372036854775807 ≤ n ∧ n ≤ 9223372036854775807) : PC PP F_impl_RatFromInt [I n] (rV .s (qd (FQ.ofInt n))) [] := ((RatFromInt_g n hn).conv (ro_share _)).pc
theorem impl_TraceOf_c (m : MD) (hs : smallL m.cells) : PC PP F_impl_TraceOf [mtV .s m] (toS (traceQ m)) [] := ((impl_TraceOf_g m .s fls hs).conv (to_share _)).pc
theorem impl_DiagonalOf_c (m : MD) (hs : smallL m.cells) : PC PP F_impl_DiagonalOf [mtV .s m] (sR .s (diagR m)) [] :=
  ((impl_DiagonalOf_g m .s fls hs).conv (RtG.share 0 (cs' := rsC .s (diagR m)) rfl lW leL_us lW (RtG.nothing [] trivial (by decide) lW (Rn.rslR rfl rfl)))).pc
theorem FnTraces_s (l : List Int) : PC PP F_laws_FnTraces [byV .s l] (Bo true) [] := by
  refine txe W_laws_FnTraces ke_laws_FnTraces [] [] [] (by kernel_rfl) ?_
  by_cases hl : l.length ≤ 1048576
  · have qm := MakeSymmetric_m l hl
    have hg := symMD_good l
    have hms := symMD_small l
    have hv : ∀ i, i < 3 → FV (symG l 3 i i) (symV l i i) 37 := fun i hi => symG_val l i i hi hi
    have et : traceQ (symMD l) = sumQ (fun i => symG l 3 i i) 3 := by
      rw [traceQ_ok (good_ok hg) hg]
      exact sumQ_congr fun i hi => symMD_at l hi hi
    have ed : diagR (symMD l) = (rowQ 3 fun i => symG l 3 i i).map qd := by
      rw [diagR_qd (good_ok hg) hg]
      exact congrArg _ (rowQ_congr fun i hi => symMD_at l hi hi)
    have hgood : (sumQ (fun i => symG l 3 i i) 3).good = true := by
      have h0 : FV (FQ.ofInt 0) ((0 : Int) : Rat) 0 := FV.ofInt (z := 0) (by decide) (by decide)
      exact (((h0.add (hv 0 (by omega)) (by omega)).add (hv 1 (by omega)) (by omega)).add (hv 2 (by omega)) (by omega)).good
    have q1 := impl_RatFromInt_c 0 (by omega)
    have q2 := impl_DiagonalOf_c (symMD l) hms
    have q3 := impl_TraceOf_c (symMD l) hms
    rw [ed] at q2
    rw [et] at q3
    have hlo : (rowQ 3 fun i => symG l 3 i i).length = 3 := rowQ_length
    have hoi : ∀ i, i < 3 → (rowQ 3 fun i => symG l 3 i i).getD i FQ.bad = symG l 3 i i := fun i hi => rowQ_get hi
    have hs : ∀ k, sumQ (fun i => symG l 3 i i) (k + 1) = (sumQ (fun i => symG l 3 i i) k).add (symG l 3 k k) := fun k => rfl
    have h0 : FQ.ofInt 0 = sumQ (fun i => symG l 3 i i) 0 := rfl
    rw [h0] at q1
    generalize rowQ 3 (fun i => symG l 3 i i) = o at *
    generalize sumQ (fun i => symG l 3 i i) = S at *
    generalize symG l 3 = Z at *
    generalize symMD l = m at *
    unfold toS at q3
    rw [hgood] at q3
    have q4 := impl_RatEqual_c .s .s fls fls (qd (S 3)) (qd (S 3)) (qd_small _).fit (qd_small _).fit
    rw [decide_eq_true rfl] at q4
    have hD : sR .s (o.map qd) = .sl .s 3 3 (rsC .s (o.map qd)) := by
      show V.sl .s 3 (o.map qd).length _ = _
      rw [List.length_map, hlo]
    rw [hD] at q2
    have hol : (o.map qd).length = 3 := by rw [List.length_map, hlo]
    simp -dsimp(disch:=first|exact om|fail)only[go_sem,↓reduceIte,Nat.reduceEqDiff,Nat.reduceAdd,Nat.reduceSub,Nat.reduceMul,Nat.reduceLT,Nat.reduceLeDiff,reduceCtorEq,a_eq,a_neq,a_cast0,a_pred,a_app1,a_zero,Int.reduceToNat]
    refine callP qm lL ?_
    simp -dsimp(disch:=first|exact om|fail)only[go_sem,↓reduceIte,Nat.reduceEqDiff,Nat.reduceAdd,Nat.reduceSub,Nat.reduceMul,Nat.reduceLT,Nat.reduceLeDiff,reduceCtorEq,a_eq,a_neq,a_cast0,a_pred,a_app1,a_zero,Int.reduceToNat]
    refine callP q1 lL ?_
    simp -dsimp(disch:=first|exact om|fail)only[go_sem,↓reduceIte,Nat.reduceEqDiff,Nat.reduceAdd,Nat.reduceSub,Nat.reduceMul,Nat.reduceLT,Nat.reduceLeDiff,reduceCtorEq,a_eq,a_neq,a_cast0,a_pred,a_app1,a_zero,Int.reduceToNat]
    refine callP q2 lL ?_
    simp -dsimp(disch:=first|exact om|fail)only[go_sem,↓reduceIte,Nat.reduceEqDiff,Nat.reduceAdd,Nat.reduceSub,Nat.reduceMul,Nat.reduceLT,Nat.reduceLeDiff,reduceCtorEq,a_eq,a_neq,a_cast0,a_pred,a_app1,a_zero,Int.reduceToNat]
    refine loopJ (fun k : Nat => k ≤ 3) (fun k => ⟨[(3, .ref 0 0), (4, .ref 1 0), (16, .sl .s 3 3 (rsC .s (o.map qd))), (17, I 3), (18, I k)], [⟨.own, T_impl_Matrix, mtC .s m⟩, ⟨.own, T_impl_Rat, rdC .s (qd (S k))⟩]⟩) (fun k => 3 - k) 0 (by omega) ?_ ?_
    · refine StI.ren [some 0, some 1] [[], []] lE (by decide) lW lW
    intro k hk
    by_cases h : k < 3
    · have q5 := impl_RatAdd_c .s .s fls fls (qd (S k)) (qd (Z k k)) (qd_small _) (qd_small _)
      rw [rdq_qd, rdq_qd, ← hs k] at q5
      have hget : (o.map qd).getD k RD.zero = qd (Z k k) := by rw [getD_map_qd (OM.mk (by rw [hlo]; exact h)), hoi k h]
      simp -dsimp(disch:=first|exact om|fail)only[go_sem,↓reduceIte,Nat.reduceEqDiff,Nat.reduceAdd,Nat.reduceSub,Nat.reduceMul,Nat.reduceLT,Nat.reduceLeDiff,reduceCtorEq,a_eq,a_neq,a_cast0,a_pred,a_app1,a_zero,Int.reduceToNat, hget]
      refine callP q5 lL ?_
      simp -dsimp(disch:=first|exact om|fail)only[go_sem,↓reduceIte,Nat.reduceEqDiff,Nat.reduceAdd,Nat.reduceSub,Nat.reduceMul,Nat.reduceLT,Nat.reduceLeDiff,reduceCtorEq,a_eq,a_neq,a_cast0,a_pred,a_app1,a_zero,Int.reduceToNat]
      exact ⟨k + 1, by omega, by omega, StI.ren [some 0, some 1] [[], []] lE (by decide) lW lW⟩
    · obtain rfl : k = 3 := by omega
      simp -dsimp(disch:=first|exact om|fail)only[go_sem,↓reduceIte,Nat.reduceEqDiff,Nat.reduceAdd,Nat.reduceSub,Nat.reduceMul,Nat.reduceLT,Nat.reduceLeDiff,reduceCtorEq,a_eq,a_neq,a_cast0,a_pred,a_app1,a_zero,Int.reduceToNat]
      refine callP q3 lL ?_
      simp -dsimp(disch:=first|exact om|fail)only[go_sem,↓reduceIte,Nat.reduceEqDiff,Nat.reduceAdd,Nat.reduceSub,Nat.reduceMul,Nat.reduceLT,Nat.reduceLeDiff,reduceCtorEq,a_eq,a_neq,a_cast0,a_pred,a_app1,a_zero,Int.reduceToNat]
      refine callP q4 lL ?_
      simp -dsimp(disch:=first|exact om|fail)only[go_sem,↓reduceIte,Nat.reduceEqDiff,Nat.reduceAdd,Nat.reduceSub,Nat.reduceMul,Nat.reduceLT,Nat.reduceLeDiff,reduceCtorEq,a_eq,a_neq,a_cast0,a_pred,a_app1,a_zero,Int.reduceToNat]
      refine callP q2 lL ?_
      simp -dsimp(disch:=first|exact om|fail)only[go_sem,↓reduceIte,Nat.reduceEqDiff,Nat.reduceAdd,Nat.reduceSub,Nat.reduceMul,Nat.reduceLT,Nat.reduceLeDiff,reduceCtorEq,a_eq,a_neq,a_cast0,a_pred,a_app1,a_zero,Int.reduceToNat]
  · simp -dsimp(disch:=first|exact om|fail)only[go_sem,↓reduceIte,Nat.reduceEqDiff,Nat.reduceAdd,Nat.reduceSub,Nat.reduceMul,Nat.reduceLT,Nat.reduceLeDiff,reduceCtorEq,a_eq,a_neq,a_cast0,a_pred,a_app1,a_zero,Int.reduceToNat]
theorem FnTraces_c (f : Fl) (hf : f ≠ .u) (l : List Int) (hl : l.length ≤ 9223372036854775807) : PC PP F_laws_FnTraces [byV f l] (Bo true) [] := by_lent (FnTraces_s l) f hf
end Go.Proofs.Ytpmjjdhnacmphaa
