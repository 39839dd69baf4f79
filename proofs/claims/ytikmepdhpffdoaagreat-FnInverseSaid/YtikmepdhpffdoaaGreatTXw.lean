/- part of the proof -/
import Derived.Test.YtikmepdhpffdoaaGreatTXv
namespace Go.Proofs.YtikmepdhpffdoaaGreat
open Go Go.RowKit
set_option maxRecDepth 100000
set_option maxHeartbeats 4000000
set_option linter.unusedVariables false
set_option linter.unusedSimpArgs false
def idM : Nat → Nat → FQ := fun i k => if i = k then FQ.ofInt 1 else FQ.ofInt 0
theorem identity1_b (i k : Nat) (hi : i ≤ 64) (hk : k ≤ 64) : PB PP F_impl_identity_1 [I i, I k] (pQ .s (idM i k)) [] := by
  refine txb W_impl_identity_1 ke_impl_identity_1 [] [] [] (by kernel_rfl) ?_
  unfold idM
  by_cases h : i = k
  · subst h
    rw [if_pos rfl]
    simp -dsimp(disch:=first|exact om|fail)only[go_sem,↓reduceIte,Nat.reduceEqDiff,Nat.reduceAdd,Nat.reduceSub,Nat.reduceMul,Nat.reduceLT,Nat.reduceLeDiff,reduceCtorEq,a_eq,a_neq,a_cast0,a_pred,a_app1,a_zero,Int.reduceToNat]
    refine callP (whole_c 1 (by omega)) lL ?_
    simp -dsimp(disch:=first|exact om|fail)only[go_sem,↓reduceIte,Nat.reduceEqDiff,Nat.reduceAdd,Nat.reduceSub,Nat.reduceMul,Nat.reduceLT,Nat.reduceLeDiff,reduceCtorEq,a_eq,a_neq,a_cast0,a_pred,a_app1,a_zero,Int.reduceToNat]
    exact RtB.nothing [] (by decide) trivial lW
  · rw [if_neg h]
    have h' : ¬ (i : Int) = (k : Int) := by omega
    simp -dsimp(disch:=first|exact om|fail)only[go_sem,↓reduceIte,Nat.reduceEqDiff,Nat.reduceAdd,Nat.reduceSub,Nat.reduceMul,Nat.reduceLT,Nat.reduceLeDiff,reduceCtorEq,a_eq,a_neq,a_cast0,a_pred,a_app1,a_zero,Int.reduceToNat, h']
    refine callP (whole_c 0 (by omega)) lL ?_
    simp -dsimp(disch:=first|exact om|fail)only[go_sem,↓reduceIte,Nat.reduceEqDiff,Nat.reduceAdd,Nat.reduceSub,Nat.reduceMul,Nat.reduceLT,Nat.reduceLeDiff,reduceCtorEq,a_eq,a_neq,a_cast0,a_pred,a_app1,a_zero,Int.reduceToNat]
    exact RtB.nothing [] (by decide) trivial lW
theorem identity_g (n : Nat) (hn : n ≤ 24) : GC PP F_impl_identity [I n] [] (.agg [I n, I n, .rsl 0 1 0 n]) [⟨.own, T_sl_p_impl_ratio, gC .u .s n n idM⟩] := by
  refine txg W_impl_identity ke_impl_identity 0 [] [] [] rfl (by kernel_rfl) ?_
  simp -dsimp(disch:=first|exact om|fail)only[go_sem,↓reduceIte,Nat.reduceEqDiff,Nat.reduceAdd,Nat.reduceSub,Nat.reduceMul,Nat.reduceLT,Nat.reduceLeDiff,reduceCtorEq,a_eq,a_neq,a_cast0,a_pred,a_app1,a_zero,Int.reduceToNat]
  refine callO' (newGrid_g n n (by omega) (by omega) _ [] [] (by simp [V.fl1]) idM (fun i k hi hk => identity1_b i k (by omega) (by omega))) lL (by intro ob hob; simp only [List.mem_cons, List.not_mem_nil, or_false] at hob; subst hob; exact ⟨by simp, gC_flat⟩) ?_
  simp -dsimp(disch:=first|exact om|fail)only[go_sem,↓reduceIte,Nat.reduceEqDiff,Nat.reduceAdd,Nat.reduceSub,Nat.reduceMul,Nat.reduceLT,Nat.reduceLeDiff,reduceCtorEq,a_eq,a_neq,a_cast0,a_pred,a_app1,a_zero,Int.reduceToNat]
  refine RtG.nothing [some 1] trivial (by decide) ?_ lW
  simp -dsimp(disch:=first|exact om|fail)only[go_sem,↓reduceIte,Nat.reduceEqDiff,Nat.reduceAdd,Nat.reduceSub,Nat.reduceMul,Nat.reduceLT,Nat.reduceLeDiff,reduceCtorEq,a_eq,a_neq,a_cast0,a_pred,a_app1,a_zero,Int.reduceToNat]
  exact RnL.same gC_flat (fun _ v hv => by obtain ⟨i, rfl⟩ := gC_mem hv; trivial)
theorem gs_share (n c : Nat) (M : Nat → Nat → FQ) : RtG 0 [⟨.own, T_sl_p_impl_ratio, gC .u .s n c M⟩] (.agg [I n, I c, .rsl 0 1 0 n]) (gV .s n c M) [] :=
  RtG.share 0 (cs' := gC .s .s n c M) rfl gC_flat leL_us_gC gC_cl (RtG.nothing [] trivial (by decide) trivial (.agg _ _ _ _ _ (.cons _ _ _ _ _ _ [] [] (.same _ _ _ trivial (fun _ => trivial)) (.cons _ _ _ _ _ _ [] [] (.same _ _ _ trivial (fun _ => trivial)) (.cons _ _ _ _ _ _ [] [] (rn_rslG rfl gC_length gC_cl) (.nil _ _))))))
theorem identity_b (n : Nat) (hn : n ≤ 24) : PB PP F_impl_identity [I n] (gV .b n n idM) [] := by
  have q := (((identity_g n hn).conv (gs_share n n idM)).pc).lent ⟨trivial, trivial⟩ ⟨trivial, trivial, gC_only, trivial⟩ (by intro ob hob; cases hob)
  rw [show (gV .s n n idM).tb = gV .b n n idM by show V.agg [I n, I n, .sl .b 1 n (V.tbL (gC .s .s n n idM))] = _; rw [gC_tb]] at q
  exact q
noncomputable def invN (r : Nat) (M : Nat → Nat → FQ) : MD × Bool := match solO r r r M idM with
  | some X => cloQ r r X
  | none => noM
noncomputable def invR (m : MD) : MD × Bool := if (m.ok && decide (m.rows = m.cols) && decide (m.rows ≤ 12)) = true then invN m.rows.toNat (m.at m.rows.toNat) else noM
theorem invR_no {m : MD} (h : (m.ok && decide (m.rows = m.cols) && decide (m.rows ≤ 12)) = false) : invR m = noM := by
  unfold invR; rw [h]; rfl
theorem invR_ok {m : MD} {r : Nat} (ho : m.ok = true) (hg : m.Good r r) (h : r ≤ 12) : invR m = invN r (m.at r) := by
  unfold invR
  rw [ho, decide_eq_true (show m.rows = m.cols by rw [hg.er, hg.ec]), decide_eq_true (show m.rows ≤ 12 by rw [hg.er]; omega), hg.er]; rfl
theorem idM_good (i k : Nat) : (idM i k).good = true := by
  unfold idM
  split <;> exact ofInt_good (by omega)
theorem impl_Inverse_g (m : MD) (f : Fl) (hf : f ≠ .u) (hs : smallL m.cells) : GC PP F_impl_Inverse [mtV f m] [] (moG (invR m)) (mtH (invR m).1) := by
  refine txg W_impl_Inverse ke_impl_Inverse 0 [] [] [] rfl (by kernel_rfl) ?_
  simp -dsimp(disch:=first|exact om|fail)only[go_sem,↓reduceIte,Nat.reduceEqDiff,Nat.reduceAdd,Nat.reduceSub,Nat.reduceMul,Nat.reduceLT,Nat.reduceLeDiff,reduceCtorEq,a_eq,a_neq,a_cast0,a_pred,a_app1,a_zero,Int.reduceToNat]
  cases ho : m.ok
  · rw [invR_no (by rw [ho]; rfl)]
    refine callB' (open_no m f hf ho hs) lB lF ?_
    simp -dsimp(disch:=first|exact om|fail)only[go_sem,↓reduceIte,Nat.reduceEqDiff,Nat.reduceAdd,Nat.reduceSub,Nat.reduceMul,Nat.reduceLT,Nat.reduceLeDiff,reduceCtorEq,a_eq,a_neq,a_cast0,a_pred,a_app1,a_zero,Int.reduceToNat]
    exact rtG_noM
  · obtain ⟨r, c, hg⟩ := MD.ok_good ho
    refine callB' (open_ok m f hf r c hg hs) lB lF ?_
    by_cases h : r = c
    · subst h
      by_cases h12 : r ≤ 12
      · rw [invR_ok ho hg h12]
        have h24 := hg.r24
        have hgd : ∀ i j, i < r → j < r → (m.at r i j).good = true := fun i j hi hj => (MD.at_ok hg hi hj).1
        have q := solved_b r r r h24 h24 h24 (m.at r) idM hgd (fun i j _ _ => idM_good i j)
        unfold invN
        simp -dsimp(disch:=first|exact om|fail)only[go_sem,↓reduceIte,Nat.reduceEqDiff,Nat.reduceAdd,Nat.reduceSub,Nat.reduceMul,Nat.reduceLT,Nat.reduceLeDiff,reduceCtorEq,a_eq,a_neq,a_cast0,a_pred,a_app1,a_zero,Int.reduceToNat]
        refine callB' (identity_b r h24) lB lF ?_
        simp -dsimp(disch:=first|exact om|fail)only[go_sem,↓reduceIte,Nat.reduceEqDiff,Nat.reduceAdd,Nat.reduceSub,Nat.reduceMul,Nat.reduceLT,Nat.reduceLeDiff,reduceCtorEq,a_eq,a_neq,a_cast0,a_pred,a_app1,a_zero,Int.reduceToNat]
        rcases e : solO r r r (m.at r) idM with _ | X
        · rw [e] at q
          replace q : PB PP F_impl_grid_solved [gV .b r r (m.at r), gV .b r r idM] (.tup [.agg [I 0, I 0, .emp], Bo false]) [] := q
          refine callB' q lB lF ?_
          simp -dsimp(disch:=first|exact om|fail)only[go_sem,↓reduceIte,Nat.reduceEqDiff,Nat.reduceAdd,Nat.reduceSub,Nat.reduceMul,Nat.reduceLT,Nat.reduceLeDiff,reduceCtorEq,a_eq,a_neq,a_cast0,a_pred,a_app1,a_zero,Int.reduceToNat]
          exact rtG_noM
        · rw [e] at q
          replace q : PB PP F_impl_grid_solved [gV .b r r (m.at r), gV .b r r idM] (.tup [gV .b r r X, Bo true]) [] := q
          refine callB' q lB lF ?_
          simp -dsimp(disch:=first|exact om|fail)only[go_sem,↓reduceIte,Nat.reduceEqDiff,Nat.reduceAdd,Nat.reduceSub,Nat.reduceMul,Nat.reduceLT,Nat.reduceLeDiff,reduceCtorEq,a_eq,a_neq,a_cast0,a_pred,a_app1,a_zero,Int.reduceToNat]
          refine callO' (closed_g r r h24 h24 .b flb X) lL lF ?_
          simp -dsimp(disch:=first|exact om|fail)only[go_sem,↓reduceIte,Nat.reduceEqDiff,Nat.reduceAdd,Nat.reduceSub,Nat.reduceMul,Nat.reduceLT,Nat.reduceLeDiff,reduceCtorEq,a_eq,a_neq,a_cast0,a_pred,a_app1,a_zero,Int.reduceToNat]
          exact RtG.nothing [some 4] lE (by decide) (by simp -dsimp(disch:=first|exact om|fail)only[go_sem,↓reduceIte,Nat.reduceEqDiff,Nat.reduceAdd,Nat.reduceSub,Nat.reduceMul,Nat.reduceLT,Nat.reduceLeDiff,reduceCtorEq,a_eq,a_neq,a_cast0,a_pred,a_app1,a_zero,Int.reduceToNat, List.map_cons, List.map_nil]) lW
      · rw [invR_no (by rw [ho, decide_eq_false (show ¬ m.rows ≤ 12 by rw [hg.er]; omega), Bool.and_false])]
        simp -dsimp(disch:=first|exact om|fail)only[go_sem,↓reduceIte,Nat.reduceEqDiff,Nat.reduceAdd,Nat.reduceSub,Nat.reduceMul,Nat.reduceLT,Nat.reduceLeDiff,reduceCtorEq,a_eq,a_neq,a_cast0,a_pred,a_app1,a_zero,Int.reduceToNat]
        exact rtG_noM
    · rw [invR_no (by rw [ho, decide_eq_false (by rw [hg.er, hg.ec]; omega)]; rfl)]
      simp -dsimp(disch:=first|exact om|fail)only[go_sem,↓reduceIte,Nat.reduceEqDiff,Nat.reduceAdd,Nat.reduceSub,Nat.reduceMul,Nat.reduceLT,Nat.reduceLeDiff,reduceCtorEq,a_eq,a_neq,a_cast0,a_pred,a_app1,a_zero,Int.reduceToNat]
      exact rtG_noM
end Go.Proofs.YtikmepdhpffdoaaGreat
