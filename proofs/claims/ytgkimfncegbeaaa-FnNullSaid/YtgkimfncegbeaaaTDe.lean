/- part of the proof -/
import Derived.Test.YtgkimfncegbeaaaTDc
import Derived.Test.YtgkimfncegbeaaaTKb
import Derived.Test.YtgkimfncegbeaaaTIs
import Derived.Test.YtgkimfncegbeaaaTYe
namespace Go.Proofs.Ytgkimfncegbeaaa
open Go Go.RowKit
set_option maxRecDepth 100000
set_option maxHeartbeats 4000000
set_option linter.unusedVariables false
set_option linter.unusedSimpArgs false
theorem ro_share (r : RD) : RtG 0 (rH r) (rO r) (rV .s r) [] := by
  refine RtG.share 0 (cs' := iC r.mag) rfl lW LeL.lits lW (RtG.share 1 (cs' := iC r.den) rfl lW LeL.lits lW ?_)
  have e1 := Rn.rslI (H := ((rH r).set 0 ⟨.frz, T_int, iC r.mag⟩).set 1 ⟨.frz, T_int, iC r.den⟩) (js := []) (bk := false) (id := 0) (ty := T_int) (l := r.mag) rfl (Nat.le_refl _)
  have e2 := Rn.rslI (H := ((rH r).set 0 ⟨.frz, T_int, iC r.mag⟩).set 1 ⟨.frz, T_int, iC r.den⟩) (js := []) (bk := false) (id := 1) (ty := T_int) (l := r.den) rfl (Nat.le_refl _)
  rw [List.take_length] at e1 e2
  exact RtG.nothing [] trivial (by decide) lW (.agg _ _ _ _ _ (.cons _ _ _ _ _ _ [] [] (.same _ _ _ trivial (fun _ => trivial)) (.cons _ _ _ _ _ _ [] [] e1 (.cons _ _ _ _ _ _ [] [] e2 (.nil _ _)))))
theorem impl_RatFromInt_c (n : Int) (hn : -9223372036854775807 ≤ n ∧ n ≤ 9223372036854775807) : PC PP F_impl_RatFromInt [I n] (rV .s (qd (FQ.ofInt n))) [] := ((RatFromInt_g n hn).conv (ro_share _)).pc
theorem impl_ZeroVector_c (n : Nat) (hn : n ≤ 24) : PC PP F_impl_ZeroVector [I n] (sR .s ((rowQ n fun _ => FQ.ofInt 0).map qd)) [] := by
  have q := impl_RatFromInt_c 0 (by omega)
  obtain ⟨L, hL⟩ : ∃ L, L = (rowQ n fun _ => FQ.ofInt 0).map qd := ⟨_, rfl⟩
  have hl : L.length = n := by rw [hL, List.length_map, rowQ_length]
  have hget : ∀ k, k < n → L.getD k RD.zero = qd (FQ.ofInt 0) := fun k hk => by rw [hL, getD_map_qd (OM.mk (by rw [rowQ_length]; exact hk)), rowQ_get hk]
  rw [← hL]
  subst hl
  refine GC.pc (GC.conv (r := .rsl 0 3 0 L.length) (H1 := [⟨.own, T_impl_Rat, rsC .s L⟩]) ?_ (RtG.share 0 (cs' := rsC .s L) rfl lW (leL_rsC fun m => .sl _ _ _ _ _ _ (show FlLe .s .s .s from Or.inl rfl) (LeL.lits)) cl_rsC (RtG.nothing [] trivial (by decide) trivial (Rn.rslR rfl rfl))))
  refine txg W_impl_ZeroVector ke_impl_ZeroVector 0 [] [] [] rfl (by kernel_rfl) ?_
  simp -dsimp(disch:=first|exact om|fail)only[go_sem,↓reduceIte,Nat.reduceEqDiff,Nat.reduceAdd,Nat.reduceSub,Nat.reduceMul,Nat.reduceLT,Nat.reduceLeDiff,reduceCtorEq,a_eq,a_neq,a_cast0,a_pred,a_app1,a_zero,Int.reduceToNat]
  rw [zsR_eq]
  refine loopJ (fun k : Nat => k ≤ L.length) (fun k => ⟨[(3, .rsl 0 3 0 L.length), (14, I L.length), (15, I k)], [⟨.own, T_impl_Rat, fillR .s L k⟩]⟩) (fun k => L.length - k) 0 (by omega) ?_ ?_
  · refine StI.ren [some 0] [[]] lE (by decide) ?_ lW
    simp -dsimp only [go_sem,↓reduceIte,Nat.reduceEqDiff,Nat.reduceAdd,Nat.reduceSub,Nat.reduceMul,Nat.reduceLT,Nat.reduceLeDiff,reduceCtorEq]
    rw [fillR_zero]
    exact RnL.same flat_zsR (fun _ => nb_zsR)
  intro k hk
  by_cases h : k < L.length
  · have hg := hget k h
    simp -dsimp(disch:=first|exact om|fail)only[go_sem,↓reduceIte,Nat.reduceEqDiff,Nat.reduceAdd,Nat.reduceSub,Nat.reduceMul,Nat.reduceLT,Nat.reduceLeDiff,reduceCtorEq,a_eq,a_neq,a_cast0,a_pred,a_app1,a_zero,Int.reduceToNat]
    refine callP q lL ?_
    simp -dsimp(disch:=first|exact om|fail)only[go_sem,↓reduceIte,Nat.reduceEqDiff,Nat.reduceAdd,Nat.reduceSub,Nat.reduceMul,Nat.reduceLT,Nat.reduceLeDiff,reduceCtorEq,a_eq,a_neq,a_cast0,a_pred,a_app1,a_zero,Int.reduceToNat]
    rw [fillR_take h, fillR_drop h]
    refine ⟨k + 1, by omega, by omega, StI.ren [some 0] [[]] lE (by decide) ?_ lW⟩
    simp -dsimp only [go_sem,↓reduceIte,Nat.reduceEqDiff,Nat.reduceAdd,Nat.reduceSub,Nat.reduceMul,Nat.reduceLT,Nat.reduceLeDiff,reduceCtorEq]
    rw [← fillR_succ' h, hg]
    exact RnL.app (k1 := []) (RnL.app (k1 := []) lW lW) (k2 := []) (RnL.same flat_zsR (fun _ => nb_zsR))
  · obtain rfl : k = L.length := by omega
    have e1 := fillR_full (f := .s) (l := L)
    simp -dsimp(disch:=first|exact om|fail)only[go_sem,↓reduceIte,Nat.reduceEqDiff,Nat.reduceAdd,Nat.reduceSub,Nat.reduceMul,Nat.reduceLT,Nat.reduceLeDiff,reduceCtorEq,a_eq,a_neq,a_cast0,a_pred,a_app1,a_zero,Int.reduceToNat]
    rw [e1]
    exact RtG.nothing [some 0] lE (by decide) (by simp -dsimp(disch:=first|exact om|fail)only[go_sem,↓reduceIte,Nat.reduceEqDiff,Nat.reduceAdd,Nat.reduceSub,Nat.reduceMul,Nat.reduceLT,Nat.reduceLeDiff,reduceCtorEq,a_eq,a_neq,a_cast0,a_pred,a_app1,a_zero,Int.reduceToNat, List.map_cons, List.map_nil]) lW
end Go.Proofs.Ytgkimfncegbeaaa
