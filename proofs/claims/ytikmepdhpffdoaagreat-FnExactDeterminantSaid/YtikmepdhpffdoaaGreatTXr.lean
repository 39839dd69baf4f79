/- part of the proof -/
import Derived.Test.YtikmepdhpffdoaaGreatTXq
namespace Go.Proofs.YtikmepdhpffdoaaGreat
open Go Go.RowKit
set_option maxRecDepth 100000
set_option maxHeartbeats 4000000
set_option linter.unusedVariables false
set_option linter.unusedSimpArgs false
theorem l05Copy_g (l : List RD) (hs : smallL l) : GC PP F_spec_l05Copy [sR .b l] [] (.rsl 0 3 0 l.length) [⟨.own, T_impl_Rat, rsC .s l⟩] := by
  have hl := hs.1
  refine txg W_spec_l05Copy ke_spec_l05Copy 0 [] [] [] rfl (by kernel_rfl) ?_
  simp -dsimp (disch:=first|assumption|(refine OM.mk ?_;first|omega|(simp only [List.length_map,List.length_set,List.length_take]<;>omega))|(simp -dsimp only [go_sem];done)|fail) only [go_sem,↓reduceIte,Nat.reduceEqDiff,Nat.reduceAdd,Nat.reduceSub,Nat.reduceMul,Nat.reduceLT,Nat.reduceLeDiff,reduceCtorEq,a_eq,a_neq,a_cast0,a_pred,a_app1,a_zero,Int.reduceToNat]
  refine loopJ (fun k : Nat => k ≤ l.length) (fun k => ⟨[(3, .rsl 0 3 0 k), (7, sR .b l), (8, I l.length), (9, I k)], [⟨.own, T_impl_Rat, rsC .s (l.take k)⟩]⟩) (fun k => l.length - k) 0 (by omega) ?_ ?_
  · exact StI.ren [none] [[]] (by simp -dsimp only [go_sem,↓reduceIte,Nat.reduceEqDiff,Nat.reduceAdd,Nat.reduceSub,Nat.reduceMul,Nat.reduceLT,Nat.reduceLeDiff,reduceCtorEq]) (by decide) (by simp -dsimp (disch:=first|assumption|(refine OM.mk ?_;first|omega|(simp only [List.length_map,List.length_set,List.length_take]<;>omega))|(simp -dsimp only [go_sem];done)|fail) only [go_sem,↓reduceIte,Nat.reduceEqDiff,Nat.reduceAdd,Nat.reduceSub,Nat.reduceMul,Nat.reduceLT,Nat.reduceLeDiff,reduceCtorEq,a_eq,a_neq,a_cast0,a_pred,a_app1,a_zero,Int.reduceToNat]) (by simp -dsimp (disch:=first|assumption|(refine OM.mk ?_;first|omega|(simp only [List.length_map,List.length_set,List.length_take]<;>omega))|(simp -dsimp only [go_sem];done)|fail) only [go_sem,↓reduceIte,Nat.reduceEqDiff,Nat.reduceAdd,Nat.reduceSub,Nat.reduceMul,Nat.reduceLT,Nat.reduceLeDiff,reduceCtorEq,a_eq,a_neq,a_cast0,a_pred,a_app1,a_zero,Int.reduceToNat])
  intro k hk
  by_cases h : k < l.length
  · have hsm := hs.getD h
    simp -dsimp (disch:=first|assumption|(refine OM.mk ?_;first|omega|(simp only [List.length_map,List.length_set,List.length_take]<;>omega))|(simp -dsimp only [go_sem];done)|fail) only [go_sem,↓reduceIte,Nat.reduceEqDiff,Nat.reduceAdd,Nat.reduceSub,Nat.reduceMul,Nat.reduceLT,Nat.reduceLeDiff,reduceCtorEq,a_eq,a_neq,a_cast0,a_pred,a_app1,a_zero,Int.reduceToNat]
    refine callP (l04Copy_c .b flb (l.getD k RD.zero) ⟨hsm.1, hsm.2⟩) (by simp -dsimp (disch:=first|assumption|(simp -dsimp only [go_sem];done)|fail) only [go_sem]) ?_
    simp -dsimp (disch:=first|assumption|(refine OM.mk ?_;first|omega|(simp only [List.length_map,List.length_set,List.length_take]<;>omega))|(simp -dsimp only [go_sem];done)|fail) only [go_sem,↓reduceIte,Nat.reduceEqDiff,Nat.reduceAdd,Nat.reduceSub,Nat.reduceMul,Nat.reduceLT,Nat.reduceLeDiff,reduceCtorEq,a_eq,a_neq,a_cast0,a_pred,a_app1,a_zero,Int.reduceToNat]
    exact ⟨k + 1, by omega, by omega, StI.ren [some 2] [[]] (by simp -dsimp only [go_sem,↓reduceIte,Nat.reduceEqDiff,Nat.reduceAdd,Nat.reduceSub,Nat.reduceMul,Nat.reduceLT,Nat.reduceLeDiff,reduceCtorEq]) (by decide) (by rw [rs_push' h]; simp -dsimp (disch:=first|assumption|(refine OM.mk ?_;first|omega|(simp only [List.length_map,List.length_set,List.length_take]<;>omega))|(simp -dsimp only [go_sem];done)|fail) only [go_sem,↓reduceIte,Nat.reduceEqDiff,Nat.reduceAdd,Nat.reduceSub,Nat.reduceMul,Nat.reduceLT,Nat.reduceLeDiff,reduceCtorEq,a_eq,a_neq,a_cast0,a_pred,a_app1,a_zero,Int.reduceToNat]) (by simp -dsimp (disch:=first|assumption|(refine OM.mk ?_;first|omega|(simp only [List.length_map,List.length_set,List.length_take]<;>omega))|(simp -dsimp only [go_sem];done)|fail) only [go_sem,↓reduceIte,Nat.reduceEqDiff,Nat.reduceAdd,Nat.reduceSub,Nat.reduceMul,Nat.reduceLT,Nat.reduceLeDiff,reduceCtorEq,a_eq,a_neq,a_cast0,a_pred,a_app1,a_zero,Int.reduceToNat])⟩
  · obtain rfl : k = l.length := by omega
    simp -dsimp (disch:=first|assumption|(refine OM.mk ?_;first|omega|(simp only [List.length_map,List.length_set,List.length_take]<;>omega))|(simp -dsimp only [go_sem];done)|fail) only [go_sem,↓reduceIte,Nat.reduceEqDiff,Nat.reduceAdd,Nat.reduceSub,Nat.reduceMul,Nat.reduceLT,Nat.reduceLeDiff,reduceCtorEq,a_eq,a_neq,a_cast0,a_pred,a_app1,a_zero,Int.reduceToNat]
    rw [List.take_length]
    exact RtG.nothing [some 0] trivial (by decide) (by simp -dsimp (disch:=first|assumption|(refine OM.mk ?_;first|omega|(simp only [List.length_map,List.length_set,List.length_take]<;>omega))|(simp -dsimp only [go_sem];done)|fail) only [go_sem,↓reduceIte,Nat.reduceEqDiff,Nat.reduceAdd,Nat.reduceSub,Nat.reduceMul,Nat.reduceLT,Nat.reduceLeDiff,reduceCtorEq,a_eq,a_neq,a_cast0,a_pred,a_app1,a_zero,Int.reduceToNat]) (by simp -dsimp (disch:=first|assumption|(refine OM.mk ?_;first|omega|(simp only [List.length_map,List.length_set,List.length_take]<;>omega))|(simp -dsimp only [go_sem];done)|fail) only [go_sem,↓reduceIte,Nat.reduceEqDiff,Nat.reduceAdd,Nat.reduceSub,Nat.reduceMul,Nat.reduceLT,Nat.reduceLeDiff,reduceCtorEq,a_eq,a_neq,a_cast0,a_pred,a_app1,a_zero,Int.reduceToNat])
theorem l06Copy_g (m : MD) (f : Fl) (hf : f ≠ .u) (hs : smallL m.cells) : GC PP F_spec_l06Copy [mtV f m] [] (mtO m) [⟨.own, T_impl_Rat, rsC .s m.cells⟩] := by
  refine txg W_spec_l06Copy ke_spec_l06Copy 0 [] [] [1] rfl (by kernel_rfl) ?_
  simp -dsimp (disch:=first|assumption|(refine OM.mk ?_;first|omega|(simp only [List.length_map,List.length_set,List.length_take]<;>omega))|(simp -dsimp only [go_sem];done)|fail) only [go_sem,↓reduceIte,Nat.reduceEqDiff,Nat.reduceAdd,Nat.reduceSub,Nat.reduceMul,Nat.reduceLT,Nat.reduceLeDiff,reduceCtorEq,a_eq,a_neq,a_cast0,a_pred,a_app1,a_zero,Int.reduceToNat]
  refine callO' (l05Copy_g m.cells hs) (by simp -dsimp (disch:=first|assumption|(simp -dsimp only [go_sem];done)|fail) only [go_sem]) (by simp -dsimp only [go_sem,↓reduceIte,Nat.reduceEqDiff,Nat.reduceAdd,Nat.reduceSub,Nat.reduceMul,Nat.reduceLT,Nat.reduceLeDiff,reduceCtorEq, List.forall_mem_cons, List.not_mem_nil, false_implies, implies_true]) ?_
  simp -dsimp (disch:=first|assumption|(refine OM.mk ?_;first|omega|(simp only [List.length_map,List.length_set,List.length_take]<;>omega))|(simp -dsimp only [go_sem];done)|fail) only [go_sem,↓reduceIte,Nat.reduceEqDiff,Nat.reduceAdd,Nat.reduceSub,Nat.reduceMul,Nat.reduceLT,Nat.reduceLeDiff,reduceCtorEq,a_eq,a_neq,a_cast0,a_pred,a_app1,a_zero,Int.reduceToNat]
  exact RtG.nothing [some 2] trivial (by decide) (by simp -dsimp (disch:=first|assumption|(refine OM.mk ?_;first|omega|(simp only [List.length_map,List.length_set,List.length_take]<;>omega))|(simp -dsimp only [go_sem];done)|fail) only [go_sem,↓reduceIte,Nat.reduceEqDiff,Nat.reduceAdd,Nat.reduceSub,Nat.reduceMul,Nat.reduceLT,Nat.reduceLeDiff,reduceCtorEq,a_eq,a_neq,a_cast0,a_pred,a_app1,a_zero,Int.reduceToNat]) (by simp -dsimp (disch:=first|assumption|(refine OM.mk ?_;first|omega|(simp only [List.length_map,List.length_set,List.length_take]<;>omega))|(simp -dsimp only [go_sem];done)|fail) only [go_sem,↓reduceIte,Nat.reduceEqDiff,Nat.reduceAdd,Nat.reduceSub,Nat.reduceMul,Nat.reduceLT,Nat.reduceLeDiff,reduceCtorEq,a_eq,a_neq,a_cast0,a_pred,a_app1,a_zero,Int.reduceToNat])
theorem cells_at {m : MD} {r c : Nat} (hg : m.Good r c) : (gridL r c (m.at c)).map qd = m.cells := by
  obtain ⟨l, h1, h2, h3⟩ := all_list hg.all
  have hl : l.length = r * c := by rw [← hg.len, h1, List.length_map]
  have := gridL_ext (n := r) (c := c) (M := m.at c) hl fun i k hi hk => by
    have := ix_lt hi hk
    show _ = rdq _
    rw [← h2, getD_map_rdq (by show i * c + k < _; rw [hg.len]; exact this)]
  rw [← this, ← h1]
end Go.Proofs.YtikmepdhpffdoaaGreat
