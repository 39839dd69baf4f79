/- part of the proof -/
import Derived.Test.YtpmjjdhnacmphaaTRd
import Derived.Test.YtpmjjdhnacmphaaTDc
namespace Go.Proofs.Ytpmjjdhnacmphaa
open Go Go.RowKit
set_option maxRecDepth 100000
set_option maxHeartbeats 4000000
set_option linter.unusedVariables false
set_option linter.unusedSimpArgs false
theorem impl_RowOf_c (m : MD) (f : Fl) (hf : f ≠ .u) (r c i : Nat) (hg : m.Good r c) (hs : smallL m.cells) (hi : i < r) : PC PP F_impl_RowOf [mtV f m, I i] (sR .s ((rowQ c (m.at c i)).map qd)) [] := by
  have h1 := hg.r24
  have h2 := hg.c24
  have hl : ((rowQ c (m.at c i)).map qd).length = c := by rw [List.length_map, rowQ_length]
  have hq := stores_ok .b .b flb flb (rowQ c (m.at c i)) (by rw [rowQ_length]; omega) (allG_row fun k hk => (MD.at_ok hg hi hk).1)
  rw [rowQ_length] at hq
  have key : GC PP F_impl_RowOf [mtV f m, I i] [] (.rsl 0 3 0 c) [⟨.own, T_impl_Rat, rsC .u ((rowQ c (m.at c i)).map qd)⟩] := by
    refine txg W_impl_RowOf ke_impl_RowOf 0 [] [] [] rfl (by kernel_rfl) ?_
    simp -dsimp(disch:=first|exact om|fail)only[go_sem,↓reduceIte,Nat.reduceEqDiff,Nat.reduceAdd,Nat.reduceSub,Nat.reduceMul,Nat.reduceLT,Nat.reduceLeDiff,reduceCtorEq,a_eq,a_neq,a_cast0,a_pred,a_app1,a_zero,Int.reduceToNat]
    refine callB' (open_ok m f hf r c hg hs) lB lF ?_
    simp -dsimp(disch:=first|exact om|fail)only[go_sem,↓reduceIte,Nat.reduceEqDiff,Nat.reduceAdd,Nat.reduceSub,Nat.reduceMul,Nat.reduceLT,Nat.reduceLeDiff,reduceCtorEq,a_eq,a_neq,a_cast0,a_pred,a_app1,a_zero,Int.reduceToNat]
    refine callO' hq lL lF ?_
    simp -dsimp(disch:=first|exact om|fail)only[go_sem,↓reduceIte,Nat.reduceEqDiff,Nat.reduceAdd,Nat.reduceSub,Nat.reduceMul,Nat.reduceLT,Nat.reduceLeDiff,reduceCtorEq,a_eq,a_neq,a_cast0,a_pred,a_app1,a_zero,Int.reduceToNat]
    exact RtG.nothing [some 2] lE (by decide) (by simp -dsimp(disch:=first|exact om|fail)only[go_sem,↓reduceIte,Nat.reduceEqDiff,Nat.reduceAdd,Nat.reduceSub,Nat.reduceMul,Nat.reduceLT,Nat.reduceLeDiff,reduceCtorEq,a_eq,a_neq,a_cast0,a_pred,a_app1,a_zero,Int.reduceToNat, List.map_cons, List.map_nil]) lW
  refine (key.conv (RtG.share 0 (cs' := rsC .s ((rowQ c (m.at c i)).map qd)) rfl lW leL_us lW (RtG.nothing [] trivial (by decide) lW ?_))).pc
  exact Rn.rslR rfl hl
theorem impl_CellAt_c (m : MD) (f : Fl) (hf : f ≠ .u) (r c i k : Nat) (hg : m.Good r c) (hs : smallL m.cells) (hi : i < r) (hk : k < c) : PC PP F_impl_CellAt [mtV f m, I i, I k] (rV .s (m.cells.getD (i * c + k) RD.zero)) [] := by
  have h1 := hg.r24
  have h2 := hg.c24
  have hq := store_c .b flb (m.at c i k)
  rw [(MD.at_ok hg hi hk).2] at hq
  refine tx W_impl_CellAt ke_impl_CellAt [] (by kernel_rfl) ?_
  simp -dsimp(disch:=first|exact om|fail)only[go_sem,↓reduceIte,Nat.reduceEqDiff,Nat.reduceAdd,Nat.reduceSub,Nat.reduceMul,Nat.reduceLT,Nat.reduceLeDiff,reduceCtorEq,a_eq,a_neq,a_cast0,a_pred,a_app1,a_zero,Int.reduceToNat]
  refine callB' (open_ok m f hf r c hg hs) lB lF ?_
  simp -dsimp(disch:=first|exact om|fail)only[go_sem,↓reduceIte,Nat.reduceEqDiff,Nat.reduceAdd,Nat.reduceSub,Nat.reduceMul,Nat.reduceLT,Nat.reduceLeDiff,reduceCtorEq,a_eq,a_neq,a_cast0,a_pred,a_app1,a_zero,Int.reduceToNat]
  refine callP hq lL ?_
  simp -dsimp(disch:=first|exact om|fail)only[go_sem,↓reduceIte,Nat.reduceEqDiff,Nat.reduceAdd,Nat.reduceSub,Nat.reduceMul,Nat.reduceLT,Nat.reduceLeDiff,reduceCtorEq,a_eq,a_neq,a_cast0,a_pred,a_app1,a_zero,Int.reduceToNat]
end Go.Proofs.Ytpmjjdhnacmphaa
