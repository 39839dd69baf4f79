/- part of the proof -/
import Derived.Test.YtgkimfncegbeaaaGreatTXq
namespace Go.Proofs.YtgkimfncegbeaaaGreat
open Go Go.RowKit
set_option maxRecDepth 100000
set_option maxHeartbeats 4000000
set_option linter.unusedVariables false
set_option linter.unusedSimpArgs false
theorem l05Copy_g (l : List RD) (hs : smallL l) : GC PP F_spec_l05Copy [sR .b l] [] (.rsl 0 3 0 l.length) [⟨.own, T_impl_Rat, rsC .s l⟩] := by
  have hl := hs.1
  refine txg W_spec_l05Copy ke_spec_l05Copy 0 [] [] [] rfl (by kernel_rfl) ?_
  simp -dsimp(disch:=first|exact om|fail)only[go_sem,↓reduceIte,Nat.reduceEqDiff,Nat.reduceAdd,Nat.reduceSub,Nat.reduceMul,Nat.reduceLT,Nat.reduceLeDiff,reduceCtorEq,a_eq,a_neq,a_cast0,a_pred,a_app1,a_zero,Int.reduceToNat]
  refine loopJ (fun k : Nat => k ≤ l.length) (fun k => ⟨[(3, .rsl 0 3 0 k), (7, sR .b l), (8, I l.length), (9, I k)], [⟨.own, T_impl_Rat, rsC .s (l.take k)⟩]⟩) (fun k => l.length - k) 0 (by omega) ?_ ?_
  · exact StI.ren [none] [[]] lE (by decide) lW lW
  intro k hk
  by_cases h : k < l.length
  · have hsm := hs.getD h
    simp -dsimp(disch:=first|exact om|fail)only[go_sem,↓reduceIte,Nat.reduceEqDiff,Nat.reduceAdd,Nat.reduceSub,Nat.reduceMul,Nat.reduceLT,Nat.reduceLeDiff,reduceCtorEq,a_eq,a_neq,a_cast0,a_pred,a_app1,a_zero,Int.reduceToNat]
    refine callP (l04Copy_c .b flb (l.getD k RD.zero) ⟨hsm.1, hsm.2⟩) lL ?_
    simp -dsimp(disch:=first|exact om|fail)only[go_sem,↓reduceIte,Nat.reduceEqDiff,Nat.reduceAdd,Nat.reduceSub,Nat.reduceMul,Nat.reduceLT,Nat.reduceLeDiff,reduceCtorEq,a_eq,a_neq,a_cast0,a_pred,a_app1,a_zero,Int.reduceToNat]
    exact ⟨k + 1, by omega, by omega, StI.ren [some 2] [[]] lE (by decide) (by rw [rs_push' h]; simp -dsimp(disch:=first|exact om|fail)only[go_sem,↓reduceIte,Nat.reduceEqDiff,Nat.reduceAdd,Nat.reduceSub,Nat.reduceMul,Nat.reduceLT,Nat.reduceLeDiff,reduceCtorEq,a_eq,a_neq,a_cast0,a_pred,a_app1,a_zero,Int.reduceToNat]) lW⟩
  · obtain rfl : k = l.length := by omega
    simp -dsimp(disch:=first|exact om|fail)only[go_sem,↓reduceIte,Nat.reduceEqDiff,Nat.reduceAdd,Nat.reduceSub,Nat.reduceMul,Nat.reduceLT,Nat.reduceLeDiff,reduceCtorEq,a_eq,a_neq,a_cast0,a_pred,a_app1,a_zero,Int.reduceToNat]
    rw [List.take_length]
    exact RtG.nothing [some 0] trivial (by decide) lW lW
theorem l06Copy_g (m : MD) (f : Fl) (hf : f ≠ .u) (hs : smallL m.cells) : GC PP F_spec_l06Copy [mtV f m] [] (mtO m) [⟨.own, T_impl_Rat, rsC .s m.cells⟩] := by
  refine txg W_spec_l06Copy ke_spec_l06Copy 0 [] [] [1] rfl (by kernel_rfl) ?_
  simp -dsimp(disch:=first|exact om|fail)only[go_sem,↓reduceIte,Nat.reduceEqDiff,Nat.reduceAdd,Nat.reduceSub,Nat.reduceMul,Nat.reduceLT,Nat.reduceLeDiff,reduceCtorEq,a_eq,a_neq,a_cast0,a_pred,a_app1,a_zero,Int.reduceToNat]
  refine callO' (l05Copy_g m.cells hs) lL lF ?_
  simp -dsimp(disch:=first|exact om|fail)only[go_sem,↓reduceIte,Nat.reduceEqDiff,Nat.reduceAdd,Nat.reduceSub,Nat.reduceMul,Nat.reduceLT,Nat.reduceLeDiff,reduceCtorEq,a_eq,a_neq,a_cast0,a_pred,a_app1,a_zero,Int.reduceToNat]
  exact RtG.nothing [some 2] trivial (by decide) lW lW
theorem cells_at {m : MD} {r c : Nat} (hg : m.Good r c) : (gridL r c (m.at c)).map qd = m.cells := by
  obtain ⟨l, h1, h2, h3⟩ := all_list hg.all
  have hl : l.length = r * c := by rw [← hg.len, h1, List.length_map]
  have := gridL_ext (n := r) (c := c) (M := m.at c) hl fun i k hi hk => by
    have := ix_lt hi hk
    show _ = rdq _
    rw [← h2, getD_map_rdq (by show i * c + k < _; rw [hg.len]; exact this)]
  rw [← this, ← h1]
def noRd : MD × List Int × Bool := (MD.zero, [], false)
noncomputable def redQ (r c : Nat) (M : Nat → Nat → FQ) : MD × List Int × Bool := if allG (gridL r c (refTo r c M c).M) = true then (⟨r, c, (gridL r c (refTo r c M c).M).map qd⟩, (refTo r c M c).piv, true) else noRd
noncomputable def redR (m : MD) : MD × List Int × Bool := if m.ok = true then redQ m.rows.toNat m.cols.toNat (m.at m.cols.toNat) else noRd
theorem redR_ok {m : MD} {r c : Nat} (ho : m.ok = true) (hg : m.Good r c) : redR m = redQ r c (m.at c) := by
  unfold redR
  rw [if_pos ho, hg.er, hg.ec]; rfl
abbrev rdS (p : MD × List Int × Bool) : V := .tup [mtV .s p.1, sI .s p.2.1, Bo p.2.2]
theorem spec_Reduce_c (m : MD) (f : Fl) (hf : f ≠ .u) (hs : smallL m.cells) : PC PP F_spec_Reduce [mtV f m] (rdS (redR m)) [] := by
  refine txe W_spec_Reduce ke_spec_Reduce [(7, [2])] [] [4] (by kernel_rfl) ?_
  simp -dsimp(disch:=first|exact om|fail)only[go_sem,↓reduceIte,Nat.reduceEqDiff,Nat.reduceAdd,Nat.reduceSub,Nat.reduceMul,Nat.reduceLT,Nat.reduceLeDiff,reduceCtorEq,a_eq,a_neq,a_cast0,a_pred,a_app1,a_zero,Int.reduceToNat]
  refine callP (spec_MatrixOk_c m f hf hs) lL ?_
  cases ho : m.ok
  · rw [show redR m = noRd by unfold redR; rw [ho]; rfl]
    unfold noRd
    simp -dsimp(disch:=first|exact om|fail)only[go_sem,↓reduceIte,Nat.reduceEqDiff,Nat.reduceAdd,Nat.reduceSub,Nat.reduceMul,Nat.reduceLT,Nat.reduceLeDiff,reduceCtorEq,a_eq,a_neq,a_cast0,a_pred,a_app1,a_zero,Int.reduceToNat]
  · obtain ⟨r, c, hg⟩ := MD.ok_good ho
    rw [redR_ok ho hg]
    have h24 := hg.r24
    have hc24 := hg.c24
    have q := l06Copy_g m f hf hs
    have qr := l07Reduce_g r c h24 (by omega) (m.at c)
    rw [cells_at hg] at qr
    have hl := hg.len
    have hr := hg.er
    have hc := hg.ec
    simp -dsimp(disch:=first|exact om|fail)only[go_sem,↓reduceIte,Nat.reduceEqDiff,Nat.reduceAdd,Nat.reduceSub,Nat.reduceMul,Nat.reduceLT,Nat.reduceLeDiff,reduceCtorEq,a_eq,a_neq,a_cast0,a_pred,a_app1,a_zero,Int.reduceToNat]
    refine callO' q lL lF ?_
    simp -dsimp(disch:=first|exact om|fail)only[go_sem,↓reduceIte,Nat.reduceEqDiff,Nat.reduceAdd,Nat.reduceSub,Nat.reduceMul,Nat.reduceLT,Nat.reduceLeDiff,reduceCtorEq,a_eq,a_neq,a_cast0,a_pred,a_app1,a_zero,Int.reduceToNat, hr, hc, hl]
    refine callG' [2] qr (by decide) lL lL lE lF ?_
    simp -dsimp(disch:=first|exact om|fail)only[go_sem,↓reduceIte,Nat.reduceEqDiff,Nat.reduceAdd,Nat.reduceSub,Nat.reduceMul,Nat.reduceLT,Nat.reduceLeDiff,reduceCtorEq,a_eq,a_neq,a_cast0,a_pred,a_app1,a_zero,Int.reduceToNat]
    have hll : (gridL r c (refTo r c (m.at c) c).M).length ≤ 1048576 := by rw [gridL_length]; have := Nat.mul_le_mul h24 hc24; omega
    refine callP (l05Fine_c .b flb (gridL r c (refTo r c (m.at c) c).M) hll) (.cons _ _ _ _ (le_ownSB rfl (by rw [List.length_map, gridL_length])) .nil) ?_
    unfold redQ
    cases ha : allG (gridL r c (refTo r c (m.at c) c).M)
    · rw [if_neg (by decide)]
      unfold noRd
      simp -dsimp(disch:=first|exact om|fail)only[go_sem,↓reduceIte,Nat.reduceEqDiff,Nat.reduceAdd,Nat.reduceSub,Nat.reduceMul,Nat.reduceLT,Nat.reduceLeDiff,reduceCtorEq,a_eq,a_neq,a_cast0,a_pred,a_app1,a_zero,Int.reduceToNat]
    · rw [if_pos rfl]
      have hL : ((gridL r c (refTo r c (m.at c) c).M).map qd).length = r * c := by rw [List.length_map, gridL_length]
      rw [← hL]
      simp -dsimp(disch:=first|exact om|fail)only[go_sem,↓reduceIte,Nat.reduceEqDiff,Nat.reduceAdd,Nat.reduceSub,Nat.reduceMul,Nat.reduceLT,Nat.reduceLeDiff,reduceCtorEq,a_eq,a_neq,a_cast0,a_pred,a_app1,a_zero,Int.reduceToNat]
end Go.Proofs.YtgkimfncegbeaaaGreat
