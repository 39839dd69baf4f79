/- part of the proof -/
import Derived.Test.YtikmepdhpffdoaaGreatTDc
import Derived.Test.YtikmepdhpffdoaaGreatTKc
import Derived.Test.YtikmepdhpffdoaaGreatTIs
import Derived.Test.YtikmepdhpffdoaaGreatTYg
namespace Go.Proofs.YtikmepdhpffdoaaGreat
open Go Go.RowKit
set_option maxRecDepth 100000
set_option maxHeartbeats 4000000
set_option linter.unusedVariables false
set_option linter.unusedSimpArgs false
theorem ro_share (r : RD) : RtG 0 (rH r) (rO r) (rV .s r) [] := by
  refine RtG.share 0 (cs' := iC r.mag) rfl lW LeL.lits lW (RtG.share 1 (cs' := iC r.den) rfl lW LeL.lits lW ?_)
  have e1 := Rn.rslI (H := ((rH r).set 0 ⟨.frz, T_int, iC r.mag⟩).set 1 ⟨.frz, T_int, iC r.den⟩) (js := []) (bk := false) (id := 0) (ty := T_int) (l := r.mag) rfl (Nat.le_refl _)
  have e2 := Rn.rslI (H := ((rH r).set 0 ⟨.frz, T_int, iC r.mag⟩).set 1 ⟨.frz, T_int, iC r.den⟩) (js := []) (bk := false) (id := 1) (ty := T_int) (l := r.den) rfl (Nat.le_refl _)
  rw [List.take_length] at e1 e2
  exact RtG.nothing [] trivial (by decide) lW (.agg _ _ _ _ _ (.cons _ _ _ _ _ _ [] [] (.same _ _ _ trivial (fun _ => trivial)) (.cons _ _ _ _ _ _ [] [] e1 (.cons _ _ _ _ _ _ [] [] e2 (.nil _ _)))))
theorem impl_RatFromInt_c (n : Int) (hn : -9223372036854775807 ≤ n ∧ n ≤ 9223372036854775807) : PC PP F_impl_RatFromInt [I n] (rV .s (qd (FQ.ofInt n))) [] := ((RatFromInt_g n hn).conv (ro_share _)).pc
theorem fa_share (p : MD × List FQ × Bool) : RtG 0 (faH p) (faG p) (faS p) [] :=
  RtG.share 0 (cs' := rsC .s p.1.cells) rfl lW leL_us lW (RtG.share 1 (cs' := rsC .s (p.2.1.map qd)) rfl lW leL_us lW (RtG.nothing [] trivial (by decide) lW (.tup _ _ _ _ _ (.cons _ _ _ _ _ _ [] [] (.agg _ _ _ _ _ (.cons _ _ _ _ _ _ [] [] (.same _ _ _ trivial (fun _ => trivial)) (.cons _ _ _ _ _ _ [] [] (.same _ _ _ trivial (fun _ => trivial)) (.cons _ _ _ _ _ _ [] [] (Rn.rslR rfl rfl) (.nil _ _))))) (.cons _ _ _ _ _ _ [] [] (Rn.rslR rfl (by rw [List.length_map])) (.cons _ _ _ _ _ _ [] [] (.same _ _ _ trivial (fun _ => trivial)) (.nil _ _)))))))
theorem impl_Factor_c (m : MD) (hs : smallL m.cells) : PC PP F_impl_Factor [mtV .s m] (faS (facR m)) [] := ((impl_Factor_g m .s fls hs).conv (fa_share _)).pc
theorem impl_Submatrix_c (m : MD) (l : List Int) (hs : smallL m.cells) (hl : l.length ≤ 1048576) : PC PP F_impl_Submatrix [mtV .s m, sI .s l] (moS (subM m l)) [] := ((impl_Submatrix_g m .s .s fls fls l hs hl).conv (mo_share _)).pc
theorem impl_QuadraticForm_c (m : MD) (l : List RD) (hs : smallL m.cells) (hl : smallL l) : PC PP F_impl_QuadraticForm [mtV .s m, sR .s l] (toS (quadQ m l)) [] := ((impl_QuadraticForm_g m .s .s fls fls l hs hl).conv (to_share _)).pc
theorem impl_Multiply_sb (a b : MD) (ha : smallL a.cells) (hb : smallL b.cells) : PC PP F_impl_Multiply [mtV .s a, mtV .b b] (moS (mulM a b)) [] := ((impl_Multiply_g a b .s .b fls flb ha hb).conv (mo_share _)).pc
theorem impl_ZeroVector_c (n : Nat) (hn : n ≤ 24) : PC PP F_impl_ZeroVector [I n] (sR .s ((rowQ n fun _ => FQ.ofInt 0).map qd)) [] := by
  have q := impl_RatFromInt_c 0 (by omega)
  obtain ⟨L, hL⟩ : ∃ L, L = (rowQ n fun _ => FQ.ofInt 0).map qd := ⟨_, rfl⟩
  have hl : L.length = n := by rw [hL, List.length_map, rowQ_length]
  have hget : ∀ k, k < n → L.getD k RD.zero = qd (FQ.ofInt 0) := fun k hk => by rw [hL, getD_map_qd (OM.mk (by rw [rowQ_length]; exact hk)), rowQ_get hk]
  rw [← hL]
  subst hl
  refine GC.pc (GC.conv (r := .rsl 0 3 0 L.length) (H1 := [⟨.own, T_impl_Rat, rsC .s L⟩]) ?_ (RtG.share 0 (cs' := rsC .s L) rfl lW (leL_rsC fun m => .sl _ _ _ _ _ _ (show FlLe .s .s .s from Or.inl rfl) (LeL.lits)) cl_rsC (RtG.nothing [] trivial (by decide) trivial (Rn.rslR rfl rfl))))
  refine txg W_impl_ZeroVector ke_impl_ZeroVector 0 [] [] [] rfl (by kernel_rfl) ?_
  simp -dsimp(disch:=first|exact om|fail)only[go_sem,↓reduceIte,Nat.reduceEqDiff,Nat.reduceAdd,Nat.reduceSub,Nat.reduceMul,Nat.reduceLT,Nat.reduceLeDiff,reduceCtorEq,a_eq,a_neq,a_cast0,a_pred,a_app1,a_zero,Int.reduceToNat]
  rw [zsR_eq]
  refine loopJ (fun k : Nat => k ≤ L.length) (fun k => ⟨[(3, .rsl 0 3 0 L.length), (14, I L.length), (15, I k)], [⟨.own, T_impl_Rat, fillR .s L k⟩]⟩) (fun k => L.length - k) 0 (by omega) ?_ ?_
  · refine StI.ren [some 0] [[]] lE (by decide) ?_ lW
    simp -dsimp only [go_sem,↓reduceIte,Nat.reduceEqDiff,Nat.reduceAdd,Nat.reduceSub,Nat.reduceMul,Nat.reduceLT,Nat.reduceLeDiff,reduceCtorEq]
    rw [fillR_zero]
    exact RnL.same flat_zsR (fun _ => nb_zsR)
  intro k hk
  by_cases h : k < L.length
  · have hg := hget k h
    simp -dsimp(disch:=first|exact om|fail)only[go_sem,↓reduceIte,Nat.reduceEqDiff,Nat.reduceAdd,Nat.reduceSub,Nat.reduceMul,Nat.reduceLT,Nat.reduceLeDiff,reduceCtorEq,a_eq,a_neq,a_cast0,a_pred,a_app1,a_zero,Int.reduceToNat]
    refine callP q lL ?_
    simp -dsimp(disch:=first|exact om|fail)only[go_sem,↓reduceIte,Nat.reduceEqDiff,Nat.reduceAdd,Nat.reduceSub,Nat.reduceMul,Nat.reduceLT,Nat.reduceLeDiff,reduceCtorEq,a_eq,a_neq,a_cast0,a_pred,a_app1,a_zero,Int.reduceToNat]
    rw [fillR_take h, fillR_drop h]
    refine ⟨k + 1, by omega, by omega, StI.ren [some 0] [[]] lE (by decide) ?_ lW⟩
    simp -dsimp only [go_sem,↓reduceIte,Nat.reduceEqDiff,Nat.reduceAdd,Nat.reduceSub,Nat.reduceMul,Nat.reduceLT,Nat.reduceLeDiff,reduceCtorEq]
    rw [← fillR_succ' h, hg]
    exact RnL.app (k1 := []) (RnL.app (k1 := []) lW lW) (k2 := []) (RnL.same flat_zsR (fun _ => nb_zsR))
  · obtain rfl : k = L.length := by omega
    have e1 := fillR_full (f := .s) (l := L)
    simp -dsimp(disch:=first|exact om|fail)only[go_sem,↓reduceIte,Nat.reduceEqDiff,Nat.reduceAdd,Nat.reduceSub,Nat.reduceMul,Nat.reduceLT,Nat.reduceLeDiff,reduceCtorEq,a_eq,a_neq,a_cast0,a_pred,a_app1,a_zero,Int.reduceToNat]
    rw [e1]
    exact RtG.nothing [some 0] lE (by decide) (by simp -dsimp(disch:=first|exact om|fail)only[go_sem,↓reduceIte,Nat.reduceEqDiff,Nat.reduceAdd,Nat.reduceSub,Nat.reduceMul,Nat.reduceLT,Nat.reduceLeDiff,reduceCtorEq,a_eq,a_neq,a_cast0,a_pred,a_app1,a_zero,Int.reduceToNat, List.map_cons, List.map_nil]) lW
theorem impl_MatrixOf_g (n c : Nat) (hn : n ≤ 24) (hc : c ≤ 24) (l : List Int) (hl : l.length = n * c) (hb : ∀ x ∈ l, -1000000 ≤ x ∧ x ≤ 1000000) :
    GC PP F_impl_MatrixOf [I n, I c, sI .s l] [] (.agg [I (cloQ n c (listM c l)).1.rows, I (cloQ n c (listM c l)).1.cols, .rsl 0 3 0 (cloQ n c (listM c l)).1.cells.length]) [⟨.own, T_impl_Rat, rsC .s (cloQ n c (listM c l)).1.cells⟩] := by
  have q0 : ∀ m : Nat, m ≤ 24 → PC PP F_impl_isLength [I m] (Bo true) [] := fun m hm => by
    refine tx W_impl_isLength ke_impl_isLength [] (by kernel_rfl) ?_
    simp -dsimp(disch:=first|exact om|fail)only[go_sem,↓reduceIte,Nat.reduceEqDiff,Nat.reduceAdd,Nat.reduceSub,Nat.reduceMul,Nat.reduceLT,Nat.reduceLeDiff,reduceCtorEq,a_eq,a_neq,a_cast0,a_pred,a_app1,a_zero,Int.reduceToNat]
  have e1 : (n : Int) * (c : Int) = ((n * c : Nat) : Int) := by rw [Int.natCast_mul]
  have hnc := rc_le hn hc
  refine GC.conv (r := mtO (cloQ n c (listM c l)).1) (H1 := mtH (cloQ n c (listM c l)).1) ?_ (RtG.inner 0 (cs' := rsC .s (cloQ n c (listM c l)).1.cells) rfl lW leL_us cl_rsC (RtG.nothing [some 0] lE (by decide) (by simp -dsimp(disch:=first|exact om|fail)only[go_sem,↓reduceIte,Nat.reduceEqDiff,Nat.reduceAdd,Nat.reduceSub,Nat.reduceMul,Nat.reduceLT,Nat.reduceLeDiff,reduceCtorEq,a_eq,a_neq,a_cast0,a_pred,a_app1,a_zero,Int.reduceToNat, List.map_cons, List.map_nil]) lW))
  refine txg W_impl_MatrixOf ke_impl_MatrixOf 0 [] [3] [] rfl (by kernel_rfl) ?_
  simp -dsimp(disch:=first|exact om|fail)only[go_sem,↓reduceIte,Nat.reduceEqDiff,Nat.reduceAdd,Nat.reduceSub,Nat.reduceMul,Nat.reduceLT,Nat.reduceLeDiff,reduceCtorEq,a_eq,a_neq,a_cast0,a_pred,a_app1,a_zero,Int.reduceToNat, e1]
  refine callP (q0 n hn) lL ?_
  simp -dsimp(disch:=first|exact om|fail)only[go_sem,↓reduceIte,Nat.reduceEqDiff,Nat.reduceAdd,Nat.reduceSub,Nat.reduceMul,Nat.reduceLT,Nat.reduceLeDiff,reduceCtorEq,a_eq,a_neq,a_cast0,a_pred,a_app1,a_zero,Int.reduceToNat, e1]
  refine callP (q0 c hc) lL ?_
  have q2 := closed_g n c hn hc .b flb (listM c l)
  generalize cloQ n c (listM c l) = p at *
  obtain ⟨M, b⟩ := p
  simp -dsimp(disch:=first|exact om|fail)only[go_sem,↓reduceIte,Nat.reduceEqDiff,Nat.reduceAdd,Nat.reduceSub,Nat.reduceMul,Nat.reduceLT,Nat.reduceLeDiff,reduceCtorEq,a_eq,a_neq,a_cast0,a_pred,a_app1,a_zero,Int.reduceToNat, e1]
  refine ⟨⟨[(0, I n), (4, .ptr .b [I c]), (5, .ptr .b [sI .s l]), (6, .ref 0 0)], [⟨.own, T_impl_Matrix, [I 0, I 0, .emp]⟩]⟩, (StI.shareb 0 (cs' := [I c]) rfl lW lW lW).trans ((StI.shareb 1 (cs' := [sI .s l]) rfl lW lW lW).trans (StI.ren [some 2] [[]] lE (by decide) lW lW)), ?_⟩
  simp -dsimp(disch:=first|exact om|fail)only[go_sem,↓reduceIte,Nat.reduceEqDiff,Nat.reduceAdd,Nat.reduceSub,Nat.reduceMul,Nat.reduceLT,Nat.reduceLeDiff,reduceCtorEq,a_eq,a_neq,a_cast0,a_pred,a_app1,a_zero,Int.reduceToNat]
  refine callB' (newGrid_b n c (by omega) (by omega) _ [] [.ptr .b [sI .s l], .ptr .b [I c]] (by simp [V.fl1]) (listM c l) .s fls (fun i k hi hk => MatrixOf1_b n c hn hc l hl hb i k hi hk)) ?_ lF ?_
  · simp [V.fl2, V.fl1]
  simp -dsimp(disch:=first|exact om|fail)only[go_sem,↓reduceIte,Nat.reduceEqDiff,Nat.reduceAdd,Nat.reduceSub,Nat.reduceMul,Nat.reduceLT,Nat.reduceLeDiff,reduceCtorEq,a_eq,a_neq,a_cast0,a_pred,a_app1,a_zero,Int.reduceToNat]
  refine callO' q2 lL lF ?_
  simp -dsimp(disch:=first|exact om|fail)only[go_sem,↓reduceIte,Nat.reduceEqDiff,Nat.reduceAdd,Nat.reduceSub,Nat.reduceMul,Nat.reduceLT,Nat.reduceLeDiff,reduceCtorEq,a_eq,a_neq,a_cast0,a_pred,a_app1,a_zero,Int.reduceToNat]
  exact RtG.nothing [some 1] lE (by decide) (by simp -dsimp(disch:=first|exact om|fail)only[go_sem,↓reduceIte,Nat.reduceEqDiff,Nat.reduceAdd,Nat.reduceSub,Nat.reduceMul,Nat.reduceLT,Nat.reduceLeDiff,reduceCtorEq,a_eq,a_neq,a_cast0,a_pred,a_app1,a_zero,Int.reduceToNat, List.map_cons, List.map_nil]) lW
end Go.Proofs.YtikmepdhpffdoaaGreat
