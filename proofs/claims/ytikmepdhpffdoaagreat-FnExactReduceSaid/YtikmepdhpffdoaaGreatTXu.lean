/- part of the proof -/
import Derived.Test.YtikmepdhpffdoaaGreatTXs
namespace Go.Proofs.YtikmepdhpffdoaaGreat
open Go Go.RowKit
set_option maxRecDepth 100000
set_option maxHeartbeats 4000000
set_option linter.unusedVariables false
set_option linter.unusedSimpArgs false
abbrev rdO (p : MD × List Int × Bool) : V := .tup [mtO p.1, .rsl 1 1 0 p.2.1.length, Bo p.2.2]
abbrev rdH (p : MD × List Int × Bool) : List Ob := [⟨.own, T_impl_Rat, rsC .u p.1.cells⟩, ⟨.own, T_int, iC p.2.1⟩]
theorem rtG_noRd {H : List Ob} : RtG 0 H (.tup [.agg [I 0, I 0, .emp], .emp, Bo false]) (rdO noRd) (rdH noRd) := RtG.ren [none, none] [[], []] trivial (by decide) (by simp -dsimp(disch:=first|exact om|fail)only[go_sem,↓reduceIte,Nat.reduceEqDiff,Nat.reduceAdd,Nat.reduceSub,Nat.reduceMul,Nat.reduceLT,Nat.reduceLeDiff,reduceCtorEq,a_eq,a_neq,a_cast0,a_pred,a_app1,a_zero,Int.reduceToNat]; exact ⟨rfl, rfl⟩) (by simp -dsimp(disch:=first|exact om|fail)only[go_sem,↓reduceIte,Nat.reduceEqDiff,Nat.reduceAdd,Nat.reduceSub,Nat.reduceMul,Nat.reduceLT,Nat.reduceLeDiff,reduceCtorEq,a_eq,a_neq,a_cast0,a_pred,a_app1,a_zero,Int.reduceToNat]; exact ⟨⟨rfl, rfl, rfl⟩, rfl, rfl⟩)
theorem impl_Reduce_g (m : MD) (f : Fl) (hf : f ≠ .u) (hs : smallL m.cells) : GC PP F_impl_Reduce [mtV f m] [] (rdO (redR m)) (rdH (redR m)) := by
  refine txg W_impl_Reduce ke_impl_Reduce 0 [] [] [] rfl (by kernel_rfl) ?_
  simp -dsimp(disch:=first|exact om|fail)only[go_sem,↓reduceIte,Nat.reduceEqDiff,Nat.reduceAdd,Nat.reduceSub,Nat.reduceMul,Nat.reduceLT,Nat.reduceLeDiff,reduceCtorEq,a_eq,a_neq,a_cast0,a_pred,a_app1,a_zero,Int.reduceToNat]
  cases ho : m.ok
  · rw [show redR m = noRd by unfold redR; rw [ho]; rfl]
    refine callB' (open_no m f hf ho hs) lB lF ?_
    simp -dsimp(disch:=first|exact om|fail)only[go_sem,↓reduceIte,Nat.reduceEqDiff,Nat.reduceAdd,Nat.reduceSub,Nat.reduceMul,Nat.reduceLT,Nat.reduceLeDiff,reduceCtorEq,a_eq,a_neq,a_cast0,a_pred,a_app1,a_zero,Int.reduceToNat]
    exact rtG_noRd
  · obtain ⟨r, c, hg⟩ := MD.ok_good ho
    rw [redR_ok ho hg]
    have h24 := hg.r24
    have hc24 := hg.c24
    have hgd : ∀ i j, i < r → j < c → (m.at c i j).good = true := fun i j hi hj => (MD.at_ok hg hi hj).1
    have q := reduce_b r c h24 (by omega) (m.at c) hgd
    refine callB' (open_ok m f hf r c hg hs) lB lF ?_
    simp -dsimp(disch:=first|exact om|fail)only[go_sem,↓reduceIte,Nat.reduceEqDiff,Nat.reduceAdd,Nat.reduceSub,Nat.reduceMul,Nat.reduceLT,Nat.reduceLeDiff,reduceCtorEq,a_eq,a_neq,a_cast0,a_pred,a_app1,a_zero,Int.reduceToNat]
    unfold redQ
    rcases to_same hgd (Nat.le_refl c) with ⟨a, e, hS⟩ | ⟨e, h1, h2⟩
    · rw [e] at q
      have hcl : gridL r c (refTo r c (m.at c) c).M = gridL r c a.M := gridL_congr fun i j hi hj => (hS.m i j hi hj).symm
      have hal : allG (gridL r c a.M) = true := gridL_all fun i j hi hj => hS.good i j hi hj
      rw [hcl, if_pos hal, ← hS.piv]
      have qc := closed_g r c h24 hc24 .b flb a.M
      rw [cloQ_done, doneM, if_pos hal] at qc
      replace q : PB PP F_impl_grid_reduce [gV .b r c (m.at c)] (.tup [.agg [I r, I c, .sl .b 1 r (gC .b .b r c a.M), .rsl 0 1 0 a.piv.length, pQ .b a.det], Bo true]) [⟨.own, T_int, iC a.piv⟩] := q
      refine callB' q lB lF ?_
      simp -dsimp(disch:=first|exact om|fail)only[go_sem,↓reduceIte,Nat.reduceEqDiff,Nat.reduceAdd,Nat.reduceSub,Nat.reduceMul,Nat.reduceLT,Nat.reduceLeDiff,reduceCtorEq,a_eq,a_neq,a_cast0,a_pred,a_app1,a_zero,Int.reduceToNat]
      refine callO' qc lL lF ?_
      simp -dsimp(disch:=first|exact om|fail)only[go_sem,↓reduceIte,Nat.reduceEqDiff,Nat.reduceAdd,Nat.reduceSub,Nat.reduceMul,Nat.reduceLT,Nat.reduceLeDiff,reduceCtorEq,a_eq,a_neq,a_cast0,a_pred,a_app1,a_zero,Int.reduceToNat]
      have hL : ((gridL r c a.M).map qd).length = r * c := by rw [List.length_map, gridL_length]
      rw [← hL]
      exact RtG.nothing [some 5, some 3] trivial (by decide) lW lW
    · rw [e] at q
      rw [h2, if_neg (by decide)]
      replace q : PB PP F_impl_grid_reduce [gV .b r c (m.at c)] (.tup [.agg [I 0, I 0, .emp, .emp, .lit (.pointer none)], Bo false]) [] := q
      refine callB' q lB lF ?_
      simp -dsimp(disch:=first|exact om|fail)only[go_sem,↓reduceIte,Nat.reduceEqDiff,Nat.reduceAdd,Nat.reduceSub,Nat.reduceMul,Nat.reduceLT,Nat.reduceLeDiff,reduceCtorEq,a_eq,a_neq,a_cast0,a_pred,a_app1,a_zero,Int.reduceToNat]
      exact rtG_noRd
theorem redQ_len {r c : Nat} {M : Nat → Nat → FQ} : (redQ r c M).1.cells.length ≤ r * c ∧ (redQ r c M).2.1.length ≤ c := by
  unfold redQ
  split
  · refine ⟨by show ((gridL _ _ _).map qd).length ≤ _; rw [List.length_map, gridL_length]; exact Nat.le_refl _, ?_⟩
    show (refTo r c M c).piv.length ≤ c
    have : ∀ k, (refTo r c M k).piv.length ≤ k := fun k => by
      induction k with
      | zero => simp [refTo]
      | succ k ih =>
        show (if _ then _ else _ : SS).piv.length ≤ _
        split
        · unfold refStep
          split
          · exact Nat.le_trans ih (by omega)
          · show (_ ++ [_] : List Int).length ≤ _
            rw [List.length_append]
            show (refTo r c M k).piv.length + 1 ≤ _
            omega
        · omega
    exact this c
  · exact ⟨Nat.zero_le _, Nat.zero_le _⟩
end Go.Proofs.YtikmepdhpffdoaaGreat
