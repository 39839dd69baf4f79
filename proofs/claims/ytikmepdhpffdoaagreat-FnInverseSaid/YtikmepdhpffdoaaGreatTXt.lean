/- part of the proof -/
import Derived.Test.YtikmepdhpffdoaaGreatTXs
namespace Go.Proofs.YtikmepdhpffdoaaGreat
open Go Go.RowKit
set_option maxRecDepth 100000
set_option maxHeartbeats 4000000
set_option linter.unusedVariables false
set_option linter.unusedSimpArgs false
noncomputable def detN (r : Nat) (M : Nat → Nat → FQ) : FQ := if allG (gridL r r (refTo r r M r).M) = true then (if (refTo r r M r).piv.length < r then FQ.ofInt 0 else prodQ (refTo r r M r).fac) else FQ.bad
noncomputable def detQ (m : MD) : FQ := if (m.ok && decide (m.rows = m.cols)) = true then detN m.rows.toNat (m.at m.rows.toNat) else FQ.bad
theorem detQ_no {m : MD} (h : (m.ok && decide (m.rows = m.cols)) = false) : detQ m = FQ.bad := by
  unfold detQ; rw [h]; rfl
theorem detQ_ok {m : MD} {r : Nat} (ho : m.ok = true) (hg : m.Good r r) : detQ m = detN r (m.at r) := by
  unfold detQ
  rw [ho, decide_eq_true (show m.rows = m.cols by rw [hg.er, hg.ec]), hg.er]; rfl
theorem ofInt0_good : (FQ.ofInt 0).good = true := ofInt_good (by omega)
theorem RatFromInt_g (n : Int) (hn : -9223372036854775807 ≤ n ∧ n ≤ 9223372036854775807) : GC PP F_impl_RatFromInt [I n] [] (rO (qd (FQ.ofInt n))) (rH (qd (FQ.ofInt n))) := by
  refine txg W_impl_RatFromInt ke_impl_RatFromInt 0 [] [] [] rfl (by kernel_rfl) ?_
  simp -dsimp(disch:=first|exact om|fail)only[go_sem,↓reduceIte,Nat.reduceEqDiff,Nat.reduceAdd,Nat.reduceSub,Nat.reduceMul,Nat.reduceLT,Nat.reduceLeDiff,reduceCtorEq,a_eq,a_neq,a_cast0,a_pred,a_app1,a_zero,Int.reduceToNat]
  refine callP (whole_c n hn) lL ?_
  simp -dsimp(disch:=first|exact om|fail)only[go_sem,↓reduceIte,Nat.reduceEqDiff,Nat.reduceAdd,Nat.reduceSub,Nat.reduceMul,Nat.reduceLT,Nat.reduceLeDiff,reduceCtorEq,a_eq,a_neq,a_cast0,a_pred,a_app1,a_zero,Int.reduceToNat]
  refine callO' (store_g .s fls (FQ.ofInt n)) lL lF ?_
  simp -dsimp(disch:=first|exact om|fail)only[go_sem,↓reduceIte,Nat.reduceEqDiff,Nat.reduceAdd,Nat.reduceSub,Nat.reduceMul,Nat.reduceLT,Nat.reduceLeDiff,reduceCtorEq,a_eq,a_neq,a_cast0,a_pred,a_app1,a_zero,Int.reduceToNat]
  exact RtG.nothing [some 1, some 2] lE (by decide) lS lE
theorem impl_Determinant_g (m : MD) (f : Fl) (hf : f ≠ .u) (hs : smallL m.cells) : GC PP F_impl_Determinant [mtV f m] [] (toO (detQ m)) (rH (qd (detQ m))) := by
  refine txg W_impl_Determinant ke_impl_Determinant 0 [] [] [] rfl (by kernel_rfl) ?_
  simp -dsimp(disch:=first|exact om|fail)only[go_sem,↓reduceIte,Nat.reduceEqDiff,Nat.reduceAdd,Nat.reduceSub,Nat.reduceMul,Nat.reduceLT,Nat.reduceLeDiff,reduceCtorEq,a_eq,a_neq,a_cast0,a_pred,a_app1,a_zero,Int.reduceToNat]
  cases ho : m.ok
  · rw [detQ_no (by rw [ho]; rfl)]
    refine callB' (open_no m f hf ho hs) lB lF ?_
    simp -dsimp(disch:=first|exact om|fail)only[go_sem,↓reduceIte,Nat.reduceEqDiff,Nat.reduceAdd,Nat.reduceSub,Nat.reduceMul,Nat.reduceLT,Nat.reduceLeDiff,reduceCtorEq,a_eq,a_neq,a_cast0,a_pred,a_app1,a_zero,Int.reduceToNat]
    exact rtG_noT
  · obtain ⟨r, c, hg⟩ := MD.ok_good ho
    refine callB' (open_ok m f hf r c hg hs) lB lF ?_
    by_cases h : r = c
    · subst h
      rw [detQ_ok ho hg]
      have h24 := hg.r24
      have hgd : ∀ i j, i < r → j < r → (m.at r i j).good = true := fun i j hi hj => (MD.at_ok hg hi hj).1
      have q := reduce_b r r h24 (by omega) (m.at r) hgd
      unfold detN
      rcases to_same hgd (Nat.le_refl r) with ⟨a, e, hS⟩ | ⟨e, h1, h2⟩
      · rw [e] at q
        replace q : PB PP F_impl_grid_reduce [gV .b r r (m.at r)] (.tup [.agg [I r, I r, .sl .b 1 r (gC .b .b r r a.M), .rsl 0 1 0 a.piv.length, pQ .b a.det], Bo true]) [⟨.own, T_int, iC a.piv⟩] := q
        have hcl : gridL r r (refTo r r (m.at r) r).M = gridL r r a.M := gridL_congr fun i j hi hj => (hS.m i j hi hj).symm
        have hal : allG (gridL r r a.M) = true := gridL_all fun i j hi hj => hS.good i j hi hj
        rw [hcl, if_pos hal, ← hS.piv, ← hS.det]
        have hpl := hS.pl
        generalize a.det = D at *
        simp -dsimp(disch:=first|exact om|fail)only[go_sem,↓reduceIte,Nat.reduceEqDiff,Nat.reduceAdd,Nat.reduceSub,Nat.reduceMul,Nat.reduceLT,Nat.reduceLeDiff,reduceCtorEq,a_eq,a_neq,a_cast0,a_pred,a_app1,a_zero,Int.reduceToNat]
        refine callB' q lB lF ?_
        by_cases hp : a.piv.length < r
        · rw [if_pos hp]
          simp -dsimp(disch:=first|exact om|fail)only[go_sem,↓reduceIte,Nat.reduceEqDiff,Nat.reduceAdd,Nat.reduceSub,Nat.reduceMul,Nat.reduceLT,Nat.reduceLeDiff,reduceCtorEq,a_eq,a_neq,a_cast0,a_pred,a_app1,a_zero,Int.reduceToNat]
          refine callO' (RatFromInt_g 0 (by omega)) lL lF ?_
          simp -dsimp(disch:=first|exact om|fail)only[go_sem,↓reduceIte,Nat.reduceEqDiff,Nat.reduceAdd,Nat.reduceSub,Nat.reduceMul,Nat.reduceLT,Nat.reduceLeDiff,reduceCtorEq,a_eq,a_neq,a_cast0,a_pred,a_app1,a_zero,Int.reduceToNat]
          show RtG 0 _ _ (.tup [rO (qd (FQ.ofInt 0)), Bo (FQ.ofInt 0).good]) _
          rw [ofInt0_good]
          exact RtG.nothing [some 5, some 6] lE (by decide) lS lE
        · rw [if_neg hp]
          simp -dsimp(disch:=first|exact om|fail)only[go_sem,↓reduceIte,Nat.reduceEqDiff,Nat.reduceAdd,Nat.reduceSub,Nat.reduceMul,Nat.reduceLT,Nat.reduceLeDiff,reduceCtorEq,a_eq,a_neq,a_cast0,a_pred,a_app1,a_zero,Int.reduceToNat]
          refine callO' (told_g .b flb D) lL lF ?_
          simp -dsimp(disch:=first|exact om|fail)only[go_sem,↓reduceIte,Nat.reduceEqDiff,Nat.reduceAdd,Nat.reduceSub,Nat.reduceMul,Nat.reduceLT,Nat.reduceLeDiff,reduceCtorEq,a_eq,a_neq,a_cast0,a_pred,a_app1,a_zero,Int.reduceToNat]
          exact RtG.nothing [some 5, some 6] lE (by decide) lS lE
      · rw [e] at q
        replace q : PB PP F_impl_grid_reduce [gV .b r r (m.at r)] (.tup [.agg [I 0, I 0, .emp, .emp, .lit (.pointer none)], Bo false]) [] := q
        rw [h2, if_neg (by decide)]
        simp -dsimp(disch:=first|exact om|fail)only[go_sem,↓reduceIte,Nat.reduceEqDiff,Nat.reduceAdd,Nat.reduceSub,Nat.reduceMul,Nat.reduceLT,Nat.reduceLeDiff,reduceCtorEq,a_eq,a_neq,a_cast0,a_pred,a_app1,a_zero,Int.reduceToNat]
        refine callB' q lB lF ?_
        simp -dsimp(disch:=first|exact om|fail)only[go_sem,↓reduceIte,Nat.reduceEqDiff,Nat.reduceAdd,Nat.reduceSub,Nat.reduceMul,Nat.reduceLT,Nat.reduceLeDiff,reduceCtorEq,a_eq,a_neq,a_cast0,a_pred,a_app1,a_zero,Int.reduceToNat]
        exact rtG_noT
    · rw [detQ_no (by rw [ho, decide_eq_false (by rw [hg.er, hg.ec]; omega)]; rfl)]
      simp -dsimp(disch:=first|exact om|fail)only[go_sem,↓reduceIte,Nat.reduceEqDiff,Nat.reduceAdd,Nat.reduceSub,Nat.reduceMul,Nat.reduceLT,Nat.reduceLeDiff,reduceCtorEq,a_eq,a_neq,a_cast0,a_pred,a_app1,a_zero,Int.reduceToNat]
      exact rtG_noT
end Go.Proofs.YtikmepdhpffdoaaGreat
