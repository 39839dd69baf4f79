/- part of the proof -/
import Derived.Test.YtikmepdhpffdoaaGreatTXx
namespace Go.Proofs.YtikmepdhpffdoaaGreat
open Go Go.RowKit
set_option maxRecDepth 100000
set_option maxHeartbeats 4000000
set_option linter.unusedVariables false
set_option linter.unusedSimpArgs false
theorem row_le {n c i : Nat} (hi : i < n) : i * c + c ≤ n * c := by
  have := Nat.mul_le_mul_right c (show i + 1 ≤ n from hi)
  rwa [Nat.succ_mul] at this
theorem rowQ_grid {n c i : Nat} {M : Nat → Nat → FQ} (hi : i < n) : ((gridL n c M).drop (i * c)).take c = rowQ c (M i) := by
  have h1 := row_le (c := c) hi
  refine List.ext_getElem (by rw [List.length_take, List.length_drop, gridL_length, rowQ_length]; omega) fun p h2 h3 => ?_
  have hp : p < c := by rw [rowQ_length] at h3; exact h3
  have q := gridL_getD (M := M) hi hp
  have hb : i * c + p < (gridL n c M).length := by rw [gridL_length]; omega
  rw [List.getD_eq_getElem?_getD, List.getElem?_eq_getElem hb, Option.getD_some] at q
  simp only [List.getElem_take, List.getElem_drop, rowQ, List.getElem_map, List.getElem_range]
  exact q
theorem l06Row_s (n c : Nat) (hn : n ≤ 2000) (hnc : n * c ≤ 2000) (g φ : Fl) (hf : g ≠ .u) (M : Nat → Nat → FQ) (i : Nat) (hi : i < n) :
    PB PP F_spec_l06Row [.agg [I n, I c, .sl g 3 (n * c) (rsC φ ((gridL n c M).map qd))], I i] (.sl g 3 c (rsC φ ((rowQ c (M i)).map qd))) [] := by
  have h1 := row_le (c := c) hi
  have e1 : (i : Int) * (c : Int) = ((i * c : Nat) : Int) := by rw [Int.natCast_mul]
  have e2 : ((i : Int) + 1) * (c : Int) = ((i * c + c : Nat) : Int) := by rw [Int.add_mul, Int.one_mul, e1]; omega
  have e3 : (i * c + c) - i * c = c := by omega
  have e4 : (((rsC φ ((gridL n c M).map qd)).drop (i * c * 3)).take (c * 3)) = rsC φ ((rowQ c (M i)).map qd) := by
    rw [rsC_drop, rsC_take, ← List.map_drop, ← List.map_take, rowQ_grid hi]
  refine txb W_spec_l06Row ke_spec_l06Row [] [] [] (by kernel_rfl) ?_
  simp -dsimp(disch:=first|exact om|fail)only[go_sem,↓reduceIte,Nat.reduceEqDiff,Nat.reduceAdd,Nat.reduceSub,Nat.reduceMul,Nat.reduceLT,Nat.reduceLeDiff,reduceCtorEq,a_eq,a_neq,a_cast0,a_pred,a_app1,a_zero,Int.reduceToNat, e1, e2, e3, e4]
  exact RtB.nothing [] (by decide) trivial (.same _ _ _ trivial (fun h => by cases h))
theorem l05Copy_x (g : Fl) (hg : g ≠ .u) (l : List RD) (n : Nat) (hln : l.length = n) (hs : smallL l) : GC PP F_spec_l05Copy [.sl g 3 n (rsC .s l)] [] (.rsl 0 3 0 n) [⟨.own, T_impl_Rat, rsC .s l⟩] := by
  have hl := hs.1
  subst hln
  refine txg W_spec_l05Copy ke_spec_l05Copy 0 [] [] [] rfl (by kernel_rfl) ?_
  simp -dsimp(disch:=first|exact om|fail)only[go_sem,↓reduceIte,Nat.reduceEqDiff,Nat.reduceAdd,Nat.reduceSub,Nat.reduceMul,Nat.reduceLT,Nat.reduceLeDiff,reduceCtorEq,a_eq,a_neq,a_cast0,a_pred,a_app1,a_zero,Int.reduceToNat]
  refine loopJ (fun k : Nat => k ≤ l.length) (fun k => ⟨[(3, .rsl 0 3 0 k), (7, .sl g 3 l.length (rsC .s l)), (8, I l.length), (9, I k)], [⟨.own, T_impl_Rat, rsC .s (l.take k)⟩]⟩) (fun k => l.length - k) 0 (by omega) ?_ ?_
  · exact StI.ren [none] [[]] lE (by decide) lW lW
  intro k hk
  by_cases h : k < l.length
  · have hsm := hs.getD h
    simp -dsimp(disch:=first|exact om|fail)only[go_sem,↓reduceIte,Nat.reduceEqDiff,Nat.reduceAdd,Nat.reduceSub,Nat.reduceMul,Nat.reduceLT,Nat.reduceLeDiff,reduceCtorEq,a_eq,a_neq,a_cast0,a_pred,a_app1,a_zero,Int.reduceToNat]
    refine callP (l04Copy_c .s fls (l.getD k RD.zero) ⟨hsm.1, hsm.2⟩) lL ?_
    simp -dsimp(disch:=first|exact om|fail)only[go_sem,↓reduceIte,Nat.reduceEqDiff,Nat.reduceAdd,Nat.reduceSub,Nat.reduceMul,Nat.reduceLT,Nat.reduceLeDiff,reduceCtorEq,a_eq,a_neq,a_cast0,a_pred,a_app1,a_zero,Int.reduceToNat]
    exact ⟨k + 1, by omega, by omega, StI.ren [some 2] [[]] lE (by decide) (by rw [rs_push' h]; simp -dsimp(disch:=first|exact om|fail)only[go_sem,↓reduceIte,Nat.reduceEqDiff,Nat.reduceAdd,Nat.reduceSub,Nat.reduceMul,Nat.reduceLT,Nat.reduceLeDiff,reduceCtorEq,a_eq,a_neq,a_cast0,a_pred,a_app1,a_zero,Int.reduceToNat]) lW⟩
  · obtain rfl : k = l.length := by omega
    simp -dsimp(disch:=first|exact om|fail)only[go_sem,↓reduceIte,Nat.reduceEqDiff,Nat.reduceAdd,Nat.reduceSub,Nat.reduceMul,Nat.reduceLT,Nat.reduceLeDiff,reduceCtorEq,a_eq,a_neq,a_cast0,a_pred,a_app1,a_zero,Int.reduceToNat]
    rw [List.take_length]
    exact RtG.nothing [some 0] trivial (by decide) lW lW
theorem l05Copy_c (g : Fl) (hg : g ≠ .u) (l : List RD) (n : Nat) (hln : l.length = n) (hs : smallL l) : PC PP F_spec_l05Copy [.sl g 3 n (rsC .s l)] (sR .s l) [] :=
  ((l05Copy_x g hg l n hln hs).conv (RtG.share 0 (cs' := rsC .s l) rfl lW (leL_rsC fun m => .sl _ _ _ _ _ _ (show FlLe .s .s .s from Or.inl rfl) (LeL.lits)) cl_rsC (RtG.nothing (H1 := []) [] trivial (by decide) trivial (Rn.rslR (ty := T_impl_Rat) rfl hln)))).pc
theorem rowQ_bes {c d i : Nat} {M N : Nat → Nat → FQ} : rowQ (c + d) (besM c M N i) = rowQ c (M i) ++ rowQ d (N i) := by
  unfold rowQ
  rw [List.range_add, List.map_append, List.map_map]
  congr 1
  · exact List.map_congr_left fun k hk => if_pos (List.mem_range.1 hk)
  · exact List.map_congr_left fun k hk => by
      show besM c M N i (c + k) = N i k
      unfold besM
      rw [if_neg (by omega), Nat.add_sub_cancel_left]
theorem l07Beside_g (n c d : Nat) (hn : n ≤ 24) (hc : c ≤ 24) (hd : d ≤ 24) (f φ : Fl) (hf : f ≠ .u) (M N : Nat → Nat → FQ) :
    GC PP F_spec_l07Beside [.agg [I n, I c, sR .s ((gridL n c M).map qd)], .agg [I n, I d, .sl .b 3 (n * d) (rsC .s ((gridL n d N).map qd))]] [] (.agg [I n, I (c + d : Nat), .rsl 0 3 0 (n * (c + d))]) [⟨.own, T_impl_Rat, rsC .s ((gridL n (c + d) (besM c M N)).map qd)⟩] := by
  have e : (c : Int) + (d : Int) = ((c + d : Nat) : Int) := by omega
  have hla : ((gridL n c M).map qd).length = n * c := by rw [List.length_map, gridL_length]
  refine txg W_spec_l07Beside ke_spec_l07Beside 0 [] [] [] rfl (by kernel_rfl) ?_
  simp -dsimp(disch:=first|exact om|fail)only[go_sem,↓reduceIte,Nat.reduceEqDiff,Nat.reduceAdd,Nat.reduceSub,Nat.reduceMul,Nat.reduceLT,Nat.reduceLeDiff,reduceCtorEq,a_eq,a_neq,a_cast0,a_pred,a_app1,a_zero,Int.reduceToNat, e]
  refine loopJ (fun i : Nat => i ≤ n) (fun i => ⟨[(2, .ref 0 0), (3, .ref 1 0), (4, .ref 2 0), (5, .ref 3 0), (6, I i)], [⟨.own, T_impl_Matrix, [I n, I c, sR .s ((gridL n c M).map qd)]⟩, ⟨.own, T_impl_Matrix, [I n, I d, .sl .b 3 (n * d) (rsC .s ((gridL n d N).map qd))]⟩, ⟨.own, T_impl_Matrix, [I 0, I 0, .emp]⟩, ⟨.own, T_impl_Matrix, [I n, I (c + d : Nat), .rsl 4 3 0 (i * (c + d))]⟩, ⟨.own, T_impl_Rat, rsC .s ((gridL i (c + d) (besM c M N)).map qd)⟩]⟩) (fun i => n - i) 0 (by omega) ?_ ?_
  · simp only [Nat.zero_mul]
    exact StI.ren [some 0, some 1, some 2, some 3, none] [[], [], [], [], []] lE (by decide) (by simp -dsimp(disch:=first|exact om|fail)only[go_sem,↓reduceIte,Nat.reduceEqDiff,Nat.reduceAdd,Nat.reduceSub,Nat.reduceMul,Nat.reduceLT,Nat.reduceLeDiff,reduceCtorEq,a_eq,a_neq,a_cast0,a_pred,a_app1,a_zero,Int.reduceToNat]; exact rfl) lW
  intro i hi
  by_cases h : i < n
  · have q1 := l06Row_s n c (by omega) (by have := rc_le hn hc; omega) .s .s fls M i h
    have q2 := l06Row_s n d (by omega) (by have := rc_le hn hd; omega) .b .s flb N i h
    rw [← hla] at q1
    simp -dsimp(disch:=first|exact om|fail)only[go_sem,↓reduceIte,Nat.reduceEqDiff,Nat.reduceAdd,Nat.reduceSub,Nat.reduceMul,Nat.reduceLT,Nat.reduceLeDiff,reduceCtorEq,a_eq,a_neq,a_cast0,a_pred,a_app1,a_zero,Int.reduceToNat]
    refine callB' q1 lB lF ?_
    have k1 : (rowQ c (M i)).length = c := rowQ_length
    have k2 : (rowQ d (N i)).length = d := rowQ_length
    have p1 := l05Copy_c .s fls ((rowQ c (M i)).map qd) c (by rw [List.length_map, k1]) (qdl_small (by omega)).1
    have p2 := l05Copy_c .b flb ((rowQ d (N i)).map qd) d (by rw [List.length_map, k2]) (qdl_small (by omega)).1
    simp -dsimp(disch:=first|exact om|fail)only[go_sem,↓reduceIte,Nat.reduceEqDiff,Nat.reduceAdd,Nat.reduceSub,Nat.reduceMul,Nat.reduceLT,Nat.reduceLeDiff,reduceCtorEq,a_eq,a_neq,a_cast0,a_pred,a_app1,a_zero,Int.reduceToNat]
    refine callP p1 lL ?_
    simp -dsimp(disch:=first|exact om|fail)only[go_sem,↓reduceIte,Nat.reduceEqDiff,Nat.reduceAdd,Nat.reduceSub,Nat.reduceMul,Nat.reduceLT,Nat.reduceLeDiff,reduceCtorEq,a_eq,a_neq,a_cast0,a_pred,a_app1,a_zero,Int.reduceToNat]
    have hb := row_le (c := c + d) h
    have hb2 := Nat.mul_le_mul hn (show c + d ≤ 48 by omega)
    refine ⟨by omega, ?_⟩
    refine callB' q2 lB lF ?_
    simp -dsimp(disch:=first|exact om|fail)only[go_sem,↓reduceIte,Nat.reduceEqDiff,Nat.reduceAdd,Nat.reduceSub,Nat.reduceMul,Nat.reduceLT,Nat.reduceLeDiff,reduceCtorEq,a_eq,a_neq,a_cast0,a_pred,a_app1,a_zero,Int.reduceToNat]
    refine callP p2 (.cons _ _ _ _ (.sl _ _ _ _ _ _ ⟨rfl, rfl⟩ (leL_rsC fun m => .sl _ _ _ _ _ _ (show FlLe .b .s .s from Or.inl rfl) LeL.lits)) .nil) ?_
    have hcat : rsC .s ((gridL i (c + d) (besM c M N)).map qd) ++ rsC .s ((rowQ c (M i)).map qd) ++ rsC .s ((rowQ d (N i)).map qd) = rsC .s ((gridL (i + 1) (c + d) (besM c M N)).map qd) := by
      rw [gridL_succ, List.map_append, rowQ_bes, List.map_append, rsC_append, rsC_append, List.append_assoc]
    have hlen : i * (c + d) + c + d = (i + 1) * (c + d) := by rw [Nat.succ_mul]; omega
    simp -dsimp(disch:=first|exact om|fail)only[go_sem,↓reduceIte,Nat.reduceEqDiff,Nat.reduceAdd,Nat.reduceSub,Nat.reduceMul,Nat.reduceLT,Nat.reduceLeDiff,reduceCtorEq,a_eq,a_neq,a_cast0,a_pred,a_app1,a_zero,Int.reduceToNat, hcat, hlen]
    exact ⟨by omega, i + 1, by omega, by omega, StI.ren [some 0, some 1, some 2, some 3, some 6] [[], [], [], [], []] lE (by decide) lW lW⟩
  · obtain rfl : i = n := by omega
    simp -dsimp(disch:=first|exact om|fail)only[go_sem,↓reduceIte,Nat.reduceEqDiff,Nat.reduceAdd,Nat.reduceSub,Nat.reduceMul,Nat.reduceLT,Nat.reduceLeDiff,reduceCtorEq,a_eq,a_neq,a_cast0,a_pred,a_app1,a_zero,Int.reduceToNat]
    exact RtG.nothing [some 4] trivial (by decide) lW lW
end Go.Proofs.YtikmepdhpffdoaaGreat
