/- part of the proof -/
import Derived.Test.YtgkimfncegbeaaaTLc0
import Derived.Test.YtgkimfncegbeaaaTZf
import Derived.Test.YtgkimfncegbeaaaTDe
namespace Go.Proofs.Ytgkimfncegbeaaa
open Go Go.RowKit
set_option maxRecDepth 100000
set_option maxHeartbeats 4000000
set_option linter.unusedVariables false
set_option linter.unusedSimpArgs false
abbrev nvS' (x : List (List RD) × Bool) : V := .tup [.sl .s 1 x.1.length (vsC .s .s x.1), Bo x.2]
theorem leL_vsU {H : List Ob} {L : List (List RD)} : LeL H .s (vsC .u .u L) (vsC .s .s L) := by
  induction L with
  | nil => exact .nil
  | cons l L ih => exact .cons _ _ _ _ (.sl _ _ _ _ _ _ rfl (leL_rsC fun m => .sl _ _ _ _ _ _ (show FlLe .s .u .s from rfl) LeL.lits)) ih
theorem vsC_cl {L : List (List RD)} : ∀ v ∈ vsC .s .s L, v.cl := fun v hv => by
  obtain ⟨l, _, rfl⟩ := vsC_mem hv; trivial
theorem rn_vsS {H : List Ob} {js : List (Option Nat)} {bk : Bool} {id : Nat} {ty : TypeId} {L : List (List RD)} (h : H[id]? = some ⟨.frz, ty, vsC .s .s L⟩) : Rn H js bk (.rsl id 1 0 L.length) (.sl .s 1 L.length (vsC .s .s L)) [] := by
  have q := Rn.rslz (H := H) js bk id 1 0 L.length ⟨.frz, ty, vsC .s .s L⟩ h rfl (by simp [vsC]) (by simp only [Nat.zero_mul, List.drop_zero]; exact fun v hv => vsC_cl v (List.mem_of_mem_take hv))
  simp only [Nat.zero_mul, List.drop_zero, Nat.mul_one] at q
  rw [List.take_of_length_le (by rw [vsC_length]; exact Nat.le_refl _)] at q
  exact q
theorem nv_share (x : List (List RD) × Bool) : RtG 0 [⟨.own, T_sl_impl_Rat, vsC .u .u x.1⟩] (.tup [.rsl 0 1 0 x.1.length, Bo x.2]) (nvS' x) [] :=
  RtG.share 0 (cs' := vsC .s .s x.1) rfl vsC_flat leL_vsU vsC_cl (RtG.nothing [] trivial (by decide) trivial (.tup _ _ _ _ _ (.cons _ _ _ _ _ _ [] [] (rn_vsS rfl) (.cons _ _ _ _ _ _ [] [] (.same _ _ _ trivial (fun _ => trivial)) (.nil _ _)))))
theorem impl_NullVectors_c (m : MD) (hs : smallL m.cells) : PC PP F_impl_NullVectors [mtV .s m] (nvS' (nvR m)) [] := ((impl_NullVectors_g m .s fls hs).conv (nv_share _)).pc
theorem vsC_at' {f g : Fl} {L : List (List RD)} {i : Nat} (h : i < L.length) : ((vsC f g L).drop i)[0]? = some (V.sl f 3 (L.getD i []).length (rsC g (L.getD i []))) := by
  rw [List.getElem?_drop, Nat.add_zero, vsC, List.getElem?_map, List.getElem?_eq_getElem h, List.getD_eq_getElem?_getD, List.getElem?_eq_getElem h]; rfl
theorem FnNull_s (l : List Int) : PC PP F_laws_FnNull [byV .s l] (Bo true) [] := by
  refine txe W_laws_FnNull ke_laws_FnNull [] [] [] (by kernel_rfl) ?_
  by_cases hl : l.length ≤ 1048576
  · obtain ⟨m, hm⟩ : ∃ m : MD, m = ⟨2, 4, (gridL 2 4 (drawM l 1 2 4)).map qd⟩ := ⟨_, rfl⟩
    have qa : PC PP F_spec_MakeMatrix [byV .s l, I 1, I 2, I 4] (mtV .s m) [] := by
      have q := MakeMatrix_s l hl 1 2 4 (by omega) (by omega) (by omega)
      rw [hm, show mtV .s (⟨2, 4, (gridL 2 4 (drawM l 1 2 4)).map qd⟩ : MD) = _ from mt_grid (n := 2) (c := 4)]; exact q
    have hav : ∀ i j, i < 2 → j < 4 → FV (drawM l 1 2 4 i j) (drawM l 1 2 4 i j).val 5 := fun i j _ _ => nX_val l _ _
    have hg : m.Good 2 4 := by rw [hm]; exact grid_good (n := 2) (c := 4) (by omega) (by omega) fun i j hi hj => (hav i j hi hj).good
    have hms : smallL m.cells := by rw [hm]; exact grid_small (by omega) (by omega)
    obtain ⟨L, M, p, f1, f2, f3, f4, f5, f6, f7⟩ := null_facts m hg (fun i j => (drawM l 1 2 4 i j).val) (fun i j hi hj => by
      have : m.at 4 i j = drawM l 1 2 4 i j := by rw [hm]; exact grid_at (n := 2) (c := 4) hi hj
      rw [this]; exact hav i j hi hj)
    have er := hg.er
    have ec := hg.ec
    clear hm hav
    have q1 := impl_NullVectors_c m hms
    have q2 := impl_Reduce_c m .s fls hms
    have q3 := impl_RankOf_c m .s fls hms
    have q4 := impl_RankOf_c M .s fls f4
    rw [f1] at q1; rw [f2] at q2 q3
    rw [if_pos f5, f6] at q4
    simp only [if_true] at q3
    have hLl : (L.map fun l => l.map qd).length = L.length := by rw [List.length_map]
    have hgt : ∀ i, i < L.length → ∃ x, x ∈ L ∧ (L.map fun l => l.map qd).getD i [] = x.map qd := fun i hi => by
      refine ⟨L[i], List.getElem_mem hi, ?_⟩
      rw [List.getD_eq_getElem?_getD, List.getElem?_map, List.getElem?_eq_getElem hi]; rfl
    obtain ⟨W, hW⟩ : ∃ W, W = L.map fun l => l.map qd := ⟨_, rfl⟩
    rw [← hW] at q1 hLl hgt
    have hz := impl_ZeroVector_c 2 (by omega)
    replace hz : PC PP F_impl_ZeroVector [I 2] (sR .s ((rowQ 2 fun _ => FQ.ofInt 0).map qd)) [] := hz
    have hZs : smallL ((rowQ 2 fun _ => FQ.ofInt 0).map qd) := (qdl_small (by rw [rowQ_length]; omega)).1
    have hee := impl_EqualVectors_c .s .s fls fls _ _ hZs.fit hZs.fit
    rw [decide_eq_true rfl] at hee
    simp -dsimp(disch:=first|exact om|fail)only[go_sem,↓reduceIte,Nat.reduceEqDiff,Nat.reduceAdd,Nat.reduceSub,Nat.reduceMul,Nat.reduceLT,Nat.reduceLeDiff,reduceCtorEq,a_eq,a_neq,a_cast0,a_pred,a_app1,a_zero,Int.reduceToNat]
    refine callP qa lL ?_
    simp -dsimp(disch:=first|exact om|fail)only[go_sem,↓reduceIte,Nat.reduceEqDiff,Nat.reduceAdd,Nat.reduceSub,Nat.reduceMul,Nat.reduceLT,Nat.reduceLeDiff,reduceCtorEq,a_eq,a_neq,a_cast0,a_pred,a_app1,a_zero,Int.reduceToNat]
    refine callP q1 lL ?_
    simp -dsimp(disch:=first|exact om|fail)only[go_sem,↓reduceIte,Nat.reduceEqDiff,Nat.reduceAdd,Nat.reduceSub,Nat.reduceMul,Nat.reduceLT,Nat.reduceLeDiff,reduceCtorEq,a_eq,a_neq,a_cast0,a_pred,a_app1,a_zero,Int.reduceToNat]
    refine callP q2 lL ?_
    simp -dsimp(disch:=first|exact om|fail)only[go_sem,↓reduceIte,Nat.reduceEqDiff,Nat.reduceAdd,Nat.reduceSub,Nat.reduceMul,Nat.reduceLT,Nat.reduceLeDiff,reduceCtorEq,a_eq,a_neq,a_cast0,a_pred,a_app1,a_zero,Int.reduceToNat, hLl]
    refine callP q3 lL ?_
    simp -dsimp(disch:=first|exact om|fail)only[go_sem,↓reduceIte,Nat.reduceEqDiff,Nat.reduceAdd,Nat.reduceSub,Nat.reduceMul,Nat.reduceLT,Nat.reduceLeDiff,reduceCtorEq,a_eq,a_neq,a_cast0,a_pred,a_app1,a_zero,Int.reduceToNat]
    refine callP q4 lL ?_
    simp -dsimp(disch:=first|exact om|fail)only[go_sem,↓reduceIte,Nat.reduceEqDiff,Nat.reduceAdd,Nat.reduceSub,Nat.reduceMul,Nat.reduceLT,Nat.reduceLeDiff,reduceCtorEq,a_eq,a_neq,a_cast0,a_pred,a_app1,a_zero,Int.reduceToNat, hLl]
    refine loopJ (fun i : Nat => i ≤ L.length) (fun i => ⟨[(3, .ref 0 0), (57, .sl .s 1 L.length (vsC .s .s W)), (58, I L.length), (59, I i)], [⟨.own, T_impl_Matrix, [I m.rows, I m.cols, sR .s m.cells]⟩]⟩) (fun i => L.length - i) 0 (by omega) ?_ ?_
    · exact StI.ren [some 0] [[]] lE (by decide) lW lW
    intro i hi
    by_cases h : i < L.length
    · obtain ⟨x, hx, ex⟩ := hgt i h
      obtain ⟨xl, xa⟩ := f7 x hx
      have hat := vsC_at' (f := .s) (g := .s) (L := W) (i := i) (by omega)
      rw [ex] at hat
      have hxs : smallL (x.map qd) := (qdl_small (by omega)).1
      have qx := impl_ApplyMatrix_c m (x.map qd) hms hxs
      rw [xa] at qx
      generalize x.map qd = y at *
      simp -dsimp(disch:=first|exact om|fail)only[go_sem,↓reduceIte,Nat.reduceEqDiff,Nat.reduceAdd,Nat.reduceSub,Nat.reduceMul,Nat.reduceLT,Nat.reduceLeDiff,reduceCtorEq,a_eq,a_neq,a_cast0,a_pred,a_app1,a_zero,Int.reduceToNat, hat, hLl]
      refine callP qx lL ?_
      simp -dsimp(disch:=first|exact om|fail)only[go_sem,↓reduceIte,Nat.reduceEqDiff,Nat.reduceAdd,Nat.reduceSub,Nat.reduceMul,Nat.reduceLT,Nat.reduceLeDiff,reduceCtorEq,a_eq,a_neq,a_cast0,a_pred,a_app1,a_zero,Int.reduceToNat]
      refine callP hz lL ?_
      simp -dsimp(disch:=first|exact om|fail)only[go_sem,↓reduceIte,Nat.reduceEqDiff,Nat.reduceAdd,Nat.reduceSub,Nat.reduceMul,Nat.reduceLT,Nat.reduceLeDiff,reduceCtorEq,a_eq,a_neq,a_cast0,a_pred,a_app1,a_zero,Int.reduceToNat]
      refine callP hee lL ?_
      simp -dsimp(disch:=first|exact om|fail)only[go_sem,↓reduceIte,Nat.reduceEqDiff,Nat.reduceAdd,Nat.reduceSub,Nat.reduceMul,Nat.reduceLT,Nat.reduceLeDiff,reduceCtorEq,a_eq,a_neq,a_cast0,a_pred,a_app1,a_zero,Int.reduceToNat]
      exact ⟨i + 1, by omega, by omega, StI.ren [some 0] [[]] lE (by decide) lW lW⟩
    · obtain rfl : i = L.length := by omega
      simp -dsimp(disch:=first|exact om|fail)only[go_sem,↓reduceIte,Nat.reduceEqDiff,Nat.reduceAdd,Nat.reduceSub,Nat.reduceMul,Nat.reduceLT,Nat.reduceLeDiff,reduceCtorEq,a_eq,a_neq,a_cast0,a_pred,a_app1,a_zero,Int.reduceToNat]
  · simp -dsimp(disch:=first|exact om|fail)only[go_sem,↓reduceIte,Nat.reduceEqDiff,Nat.reduceAdd,Nat.reduceSub,Nat.reduceMul,Nat.reduceLT,Nat.reduceLeDiff,reduceCtorEq,a_eq,a_neq,a_cast0,a_pred,a_app1,a_zero,Int.reduceToNat]
theorem FnNull_c (f : Fl) (hf : f ≠ .u) (l : List Int) (hl : l.length ≤ 9223372036854775807) : PC PP F_laws_FnNull [byV f l] (Bo true) [] := by_lent (FnNull_s l) f hf
end Go.Proofs.Ytgkimfncegbeaaa
