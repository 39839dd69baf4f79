/- part of the proof -/
import Derived.Test.YtpmjjdhnacmphaaTWe
import Derived.Test.YtpmjjdhnacmphaaTGr
namespace Go.Proofs.Ytpmjjdhnacmphaa
open Go Go.RowKit
set_option maxRecDepth 100000
set_option maxHeartbeats 4000000
set_option linter.unusedVariables false
set_option linter.unusedSimpArgs false
theorem le_heldI {H : List Ob} {id n : Nat} {ty : TypeId} {l : List Int} (h : H[id]? = some ⟨.own, ty, iC l⟩) (hn : l.length = n) : Le H .b (.rsl id 1 0 n) (sI .b l) := by
  subst hn
  have hl : (iC l).length = l.length := by simp [iC]
  refine Le.rsl id 1 0 l.length _ _ h (.inl rfl) (by show 0 * 1 + l.length * 1 ≤ (iC l).length; rw [hl]; omega) ?_
  show LeL H .b (((iC l).drop (0 * 1)).take (l.length * 1)) (iC l)
  rw [Nat.zero_mul, List.drop_zero, Nat.mul_one, List.take_of_length_le (by omega)]
  exact LeL.lits
theorem le_heldP {H : List Ob} {a b c : Nat} {t1 t2 t3 : TypeId} {p : Prg} {k : Int} (h1 : H[a]? = some ⟨.own, t1, iC (markP p k).a⟩) (h2 : H[b]? = some ⟨.own, t2, iC (markP p k).b⟩) (h3 : H[c]? = some ⟨.own, t3, iC (markP p k).c⟩) :
    Le H .b (.agg [I p.rows, I p.cols, .rsl a 1 0 p.a.length, .rsl b 1 0 p.b.length, .rsl c 1 0 p.c.length]) (pV .b (markP p k)) :=
  .agg _ _ (.cons _ _ _ _ (.lit _) (.cons _ _ _ _ (.lit _) (.cons _ _ _ _ (le_heldI h1 (by show (marks _ _).length = _; rw [marks_length])) (.cons _ _ _ _ (le_heldI h2 (by show (marks _ _).length = _; rw [marks_length])) (.cons _ _ _ _ (le_heldI h3 (by show (marks _ _).length = _; rw [marks_length])) .nil)))))
theorem dualP_W (p : Prg) : (dualP p).small ∧ (dualP p).len ≤ 100000 := by
  unfold dualP
  split
  · rename_i ho
    obtain ⟨hok, r, c, hr, hc, r9, c16⟩ := fits_spec ho
    obtain ⟨_, _, _, hbl, hcl, _, hbr, _⟩ := okP_spec hok
    have ec : p.cols.toNat = c := by omega
    have h1 := rowsL_le hr hc r9 c16 (Nat.le_refl c)
    have h2 : (negL p.b ++ p.b ++ zerosL c).length ≤ 34 := by rw [List.length_append, List.length_append, negL_length, zerosL_length]; omega
    rw [ec]
    exact ⟨⟨by show (rowsL p c).length ≤ _; omega, by show p.c.length ≤ _; omega, by show (negL p.b ++ p.b ++ zerosL c).length ≤ _; omega⟩, by show (rowsL p c).length + p.c.length + (negL p.b ++ p.b ++ zerosL c).length ≤ _; omega⟩
  · exact ⟨⟨by decide, by decide, by decide⟩, by decide⟩
theorem farkasP_W (p : Prg) : (farkasP p).small ∧ (farkasP p).len ≤ 100000 := by
  unfold farkasP
  split
  · rename_i ho
    obtain ⟨hok, r, c, hr, hc, r9, c16⟩ := fits_spec ho
    obtain ⟨_, _, _, hbl, hcl, _, hbr, _⟩ := okP_spec hok
    have ec : p.cols.toNat = c := by omega
    have en : (2 * p.rows + p.cols).toNat = 2 * r + c := by omega
    have h1 := rowsL_le hr hc r9 c16 (Nat.le_refl c)
    have h2 : (rowsL p c ++ p.b ++ negL p.b ++ zerosL c).length ≤ 600 := by rw [List.length_append, List.length_append, List.length_append, negL_length, zerosL_length]; omega
    have h3 : (zerosL c ++ [(-1 : Int)]).length ≤ 17 := by rw [List.length_append, zerosL_length]; show c + 1 ≤ 17; omega
    have h4 : (zerosL (2 * r + c)).length ≤ 34 := by rw [zerosL_length]; omega
    rw [ec, en]
    exact ⟨⟨by show (rowsL p c ++ p.b ++ negL p.b ++ zerosL c).length ≤ _; omega, by show (zerosL c ++ [(-1 : Int)]).length ≤ _; omega, by show (zerosL (2 * r + c)).length ≤ _; omega⟩, by show (rowsL p c ++ p.b ++ negL p.b ++ zerosL c).length + (zerosL c ++ [(-1 : Int)]).length + (zerosL (2 * r + c)).length ≤ _; omega⟩
  · exact ⟨⟨by decide, by decide, by decide⟩, by decide⟩
theorem spec_DualProgram_s (p0 : Prg) (h0 : p0.small) : PC PP F_spec_DualProgram [pV .s p0] (pV .s (dualP p0)) [] := spec_DualProgram_c .s fls p0 h0
theorem impl_DualProgram_i (f : Fl) (hf : f ≠ .u) (p0 : Prg) (h0 : p0.small) : GC PP F_impl_DualProgram [pV f p0] [] (pO (dualP p0)) (pH (dualP p0)) := impl_DualProgram_g f hf p0 h0
theorem DualProgram_W (p0 : Prg) (h0 : p0.small) : (dualP p0).small ∧ (dualP p0).len ≤ 100000 := dualP_W p0
theorem FnExactDualProgram_c (f : Fl) (hf : f ≠ .u) (p0 : Prg) (g0a : p0.a.length ≤ 9223372036854775807) (g0b : p0.b.length ≤ 9223372036854775807) (g0c : p0.c.length ≤ 9223372036854775807) : PC PP F_laws_FnExactDualProgram [pV f p0] (Bo true) [] := by
  have hz0 := szProgram_c f hf p0 g0a g0b g0c
  have hb0 := szP_rng p0
  have hs0 := @szP_small p0
  generalize hzz0 : szP p0 = z0 at *
  refine txe W_laws_FnExactDualProgram ke_laws_FnExactDualProgram [] [] [13, 17] (by kernel_rfl) ?_
  simp -dsimp(disch:=first|exact om|fail)only[go_sem,↓reduceIte,Nat.reduceEqDiff,Nat.reduceAdd,Nat.reduceSub,Nat.reduceMul,Nat.reduceLT,Nat.reduceLeDiff,reduceCtorEq,a_eq,a_neq,a_cast0,a_pred,a_app1,a_zero,Int.reduceToNat, pC]
  refine callP hz0 (by simp -dsimp(disch:=first|exact om|fail)only[go_sem,↓reduceIte,Nat.reduceEqDiff,Nat.reduceAdd,Nat.reduceSub,Nat.reduceMul,Nat.reduceLT,Nat.reduceLeDiff,reduceCtorEq,a_eq,a_neq,a_cast0,a_pred,a_app1,a_zero,Int.reduceToNat, pC]) ?_
  simp -dsimp(disch:=first|exact om|fail)only[go_sem,↓reduceIte,Nat.reduceEqDiff,Nat.reduceAdd,Nat.reduceSub,Nat.reduceMul,Nat.reduceLT,Nat.reduceLeDiff,reduceCtorEq,a_eq,a_neq,a_cast0,a_pred,a_app1,a_zero,Int.reduceToNat, pC]
  intro qp0
  have s0 := hs0 (by omega)
  have s0k := Prg.len_le s0
  refine callP (toProgram_c f hf p0 s0) (by simp -dsimp(disch:=first|exact om|fail)only[go_sem,↓reduceIte,Nat.reduceEqDiff,Nat.reduceAdd,Nat.reduceSub,Nat.reduceMul,Nat.reduceLT,Nat.reduceLeDiff,reduceCtorEq,a_eq,a_neq,a_cast0,a_pred,a_app1,a_zero,Int.reduceToNat, pC]) ?_
  simp -dsimp(disch:=first|exact om|fail)only[go_sem,↓reduceIte,Nat.reduceEqDiff,Nat.reduceAdd,Nat.reduceSub,Nat.reduceMul,Nat.reduceLT,Nat.reduceLeDiff,reduceCtorEq,a_eq,a_neq,a_cast0,a_pred,a_app1,a_zero,Int.reduceToNat, pC]
  refine callP (spec_DualProgram_s p0 s0) (by simp -dsimp(disch:=first|exact om|fail)only[go_sem,↓reduceIte,Nat.reduceEqDiff,Nat.reduceAdd,Nat.reduceSub,Nat.reduceMul,Nat.reduceLT,Nat.reduceLeDiff,reduceCtorEq,a_eq,a_neq,a_cast0,a_pred,a_app1,a_zero,Int.reduceToNat, pC]) ?_
  simp -dsimp(disch:=first|exact om|fail)only[go_sem,↓reduceIte,Nat.reduceEqDiff,Nat.reduceAdd,Nat.reduceSub,Nat.reduceMul,Nat.reduceLT,Nat.reduceLeDiff,reduceCtorEq,a_eq,a_neq,a_cast0,a_pred,a_app1,a_zero,Int.reduceToNat, pC]
  refine callO' (toProgramO_c f hf p0 s0) (by simp -dsimp(disch:=first|exact om|fail)only[go_sem,↓reduceIte,Nat.reduceEqDiff,Nat.reduceAdd,Nat.reduceSub,Nat.reduceMul,Nat.reduceLT,Nat.reduceLeDiff,reduceCtorEq,a_eq,a_neq,a_cast0,a_pred,a_app1,a_zero,Int.reduceToNat, pC]) lF ?_
  simp -dsimp(disch:=first|exact om|fail)only[go_sem,↓reduceIte,Nat.reduceEqDiff,Nat.reduceAdd,Nat.reduceSub,Nat.reduceMul,Nat.reduceLT,Nat.reduceLeDiff,reduceCtorEq,a_eq,a_neq,a_cast0,a_pred,a_app1,a_zero,Int.reduceToNat, pC]
  have hig := impl_DualProgram_i .b flb p0 s0
  have his := impl_DualProgram_i .s fls p0 s0
  obtain ⟨hSw0, hKw0⟩ := DualProgram_W p0 s0
  generalize dualP p0 = w0 at *
  refine callO' hig (by simp -dsimp(disch:=first|exact om|fail)only[go_sem,↓reduceIte,Nat.reduceEqDiff,Nat.reduceAdd,Nat.reduceSub,Nat.reduceMul,Nat.reduceLT,Nat.reduceLeDiff,reduceCtorEq,a_eq,a_neq,a_cast0,a_pred,a_app1,a_zero,Int.reduceToNat, pC]) lF ?_
  simp -dsimp(disch:=first|exact om|fail)only[go_sem,↓reduceIte,Nat.reduceEqDiff,Nat.reduceAdd,Nat.reduceSub,Nat.reduceMul,Nat.reduceLT,Nat.reduceLeDiff,reduceCtorEq,a_eq,a_neq,a_cast0,a_pred,a_app1,a_zero,Int.reduceToNat, pC]
  refine callP (eqProgram_c .b .s flb fls w0 hSw0) (by simp -dsimp(disch:=first|exact om|fail)only[go_sem,↓reduceIte,Nat.reduceEqDiff,Nat.reduceAdd,Nat.reduceSub,Nat.reduceMul,Nat.reduceLT,Nat.reduceLeDiff,reduceCtorEq,a_eq,a_neq,a_cast0,a_pred,a_app1,a_zero,Int.reduceToNat, pC]) ?_
  simp -dsimp(disch:=first|exact om|fail)only[go_sem,↓reduceIte,Nat.reduceEqDiff,Nat.reduceAdd,Nat.reduceSub,Nat.reduceMul,Nat.reduceLT,Nat.reduceLeDiff,reduceCtorEq,a_eq,a_neq,a_cast0,a_pred,a_app1,a_zero,Int.reduceToNat, pC, bne_self_eq_false]
  refine callP (toProgram_c f hf p0 s0) (by simp -dsimp(disch:=first|exact om|fail)only[go_sem,↓reduceIte,Nat.reduceEqDiff,Nat.reduceAdd,Nat.reduceSub,Nat.reduceMul,Nat.reduceLT,Nat.reduceLeDiff,reduceCtorEq,a_eq,a_neq,a_cast0,a_pred,a_app1,a_zero,Int.reduceToNat, pC]) ?_
  simp -dsimp(disch:=first|exact om|fail)only[go_sem,↓reduceIte,Nat.reduceEqDiff,Nat.reduceAdd,Nat.reduceSub,Nat.reduceMul,Nat.reduceLT,Nat.reduceLeDiff,reduceCtorEq,a_eq,a_neq,a_cast0,a_pred,a_app1,a_zero,Int.reduceToNat, pC]
  refine callP (eqProgram_c .b .s flb fls p0 s0) (by simp -dsimp(disch:=first|exact om|fail)only[go_sem,↓reduceIte,Nat.reduceEqDiff,Nat.reduceAdd,Nat.reduceSub,Nat.reduceMul,Nat.reduceLT,Nat.reduceLeDiff,reduceCtorEq,a_eq,a_neq,a_cast0,a_pred,a_app1,a_zero,Int.reduceToNat, pC]) ?_
  simp -dsimp(disch:=first|exact om|fail)only[go_sem,↓reduceIte,Nat.reduceEqDiff,Nat.reduceAdd,Nat.reduceSub,Nat.reduceMul,Nat.reduceLT,Nat.reduceLeDiff,reduceCtorEq,a_eq,a_neq,a_cast0,a_pred,a_app1,a_zero,Int.reduceToNat, pC]
  have hkp0 := Prg.len_le s0
  refine callG' [2, 3, 4] (markProgram_c p0 (1) s0 (by omega)) (by decide) (by simp -dsimp(disch:=first|exact om|fail)only[go_sem,↓reduceIte,Nat.reduceEqDiff,Nat.reduceAdd,Nat.reduceSub,Nat.reduceMul,Nat.reduceLT,Nat.reduceLeDiff,reduceCtorEq,a_eq,a_neq,a_cast0,a_pred,a_app1,a_zero,Int.reduceToNat, pC]) (by simp -dsimp(disch:=first|exact om|fail)only[go_sem,↓reduceIte,Nat.reduceEqDiff,Nat.reduceAdd,Nat.reduceSub,Nat.reduceMul,Nat.reduceLT,Nat.reduceLeDiff,reduceCtorEq,a_eq,a_neq,a_cast0,a_pred,a_app1,a_zero,Int.reduceToNat, pC]) lE lF ?_
  simp -dsimp(disch:=first|exact om|fail)only[go_sem,↓reduceIte,Nat.reduceEqDiff,Nat.reduceAdd,Nat.reduceSub,Nat.reduceMul,Nat.reduceLT,Nat.reduceLeDiff,reduceCtorEq,a_eq,a_neq,a_cast0,a_pred,a_app1,a_zero,Int.reduceToNat, pC]
  refine callP (eqProgram_c .b .s flb fls w0 hSw0) (by simp -dsimp(disch:=first|exact om|fail)only[go_sem,↓reduceIte,Nat.reduceEqDiff,Nat.reduceAdd,Nat.reduceSub,Nat.reduceMul,Nat.reduceLT,Nat.reduceLeDiff,reduceCtorEq,a_eq,a_neq,a_cast0,a_pred,a_app1,a_zero,Int.reduceToNat, pC]) ?_
  simp -dsimp(disch:=first|exact om|fail)only[go_sem,↓reduceIte,Nat.reduceEqDiff,Nat.reduceAdd,Nat.reduceSub,Nat.reduceMul,Nat.reduceLT,Nat.reduceLeDiff,reduceCtorEq,a_eq,a_neq,a_cast0,a_pred,a_app1,a_zero,Int.reduceToNat, pC, bne_self_eq_false]
  refine callG' [6, 7, 8] (markProgram_c w0 (1) hSw0 (by omega)) (by decide) (by simp -dsimp(disch:=first|exact om|fail)only[go_sem,↓reduceIte,Nat.reduceEqDiff,Nat.reduceAdd,Nat.reduceSub,Nat.reduceMul,Nat.reduceLT,Nat.reduceLeDiff,reduceCtorEq,a_eq,a_neq,a_cast0,a_pred,a_app1,a_zero,Int.reduceToNat, pC]) (by simp -dsimp(disch:=first|exact om|fail)only[go_sem,↓reduceIte,Nat.reduceEqDiff,Nat.reduceAdd,Nat.reduceSub,Nat.reduceMul,Nat.reduceLT,Nat.reduceLeDiff,reduceCtorEq,a_eq,a_neq,a_cast0,a_pred,a_app1,a_zero,Int.reduceToNat, pC]) lE lF ?_
  simp -dsimp(disch:=first|exact om|fail)only[go_sem,↓reduceIte,Nat.reduceEqDiff,Nat.reduceAdd,Nat.reduceSub,Nat.reduceMul,Nat.reduceLT,Nat.reduceLeDiff,reduceCtorEq,a_eq,a_neq,a_cast0,a_pred,a_app1,a_zero,Int.reduceToNat, pC]
  have hhw0 := heldProgram_c .b flb (markP w0 (1)) (1) (by obtain ⟨a1, a2, a3⟩ := hSw0; exact ⟨by show (marks _ _).length ≤ _; rw [marks_length]; omega, by show (marks _ _).length ≤ _; rw [marks_length]; omega, by show (marks _ _).length ≤ _; rw [marks_length]; omega⟩) (by omega)
  rw [heldP_mark (by omega)] at hhw0
  refine callP hhw0 (.cons _ _ _ _ (le_heldP rfl rfl rfl) (.cons _ _ _ _ (.lit _) .nil)) ?_
  simp -dsimp(disch:=first|exact om|fail)only[go_sem,↓reduceIte,Nat.reduceEqDiff,Nat.reduceAdd,Nat.reduceSub,Nat.reduceMul,Nat.reduceLT,Nat.reduceLeDiff,reduceCtorEq,a_eq,a_neq,a_cast0,a_pred,a_app1,a_zero,Int.reduceToNat, pC]
  refine callP (toProgram_c f hf p0 s0) (by simp -dsimp(disch:=first|exact om|fail)only[go_sem,↓reduceIte,Nat.reduceEqDiff,Nat.reduceAdd,Nat.reduceSub,Nat.reduceMul,Nat.reduceLT,Nat.reduceLeDiff,reduceCtorEq,a_eq,a_neq,a_cast0,a_pred,a_app1,a_zero,Int.reduceToNat, pC]) ?_
  simp -dsimp(disch:=first|exact om|fail)only[go_sem,↓reduceIte,Nat.reduceEqDiff,Nat.reduceAdd,Nat.reduceSub,Nat.reduceMul,Nat.reduceLT,Nat.reduceLeDiff,reduceCtorEq,a_eq,a_neq,a_cast0,a_pred,a_app1,a_zero,Int.reduceToNat, pC]
  refine callO' his (by simp -dsimp(disch:=first|exact om|fail)only[go_sem,↓reduceIte,Nat.reduceEqDiff,Nat.reduceAdd,Nat.reduceSub,Nat.reduceMul,Nat.reduceLT,Nat.reduceLeDiff,reduceCtorEq,a_eq,a_neq,a_cast0,a_pred,a_app1,a_zero,Int.reduceToNat, pC]) lF ?_
  simp -dsimp(disch:=first|exact om|fail)only[go_sem,↓reduceIte,Nat.reduceEqDiff,Nat.reduceAdd,Nat.reduceSub,Nat.reduceMul,Nat.reduceLT,Nat.reduceLeDiff,reduceCtorEq,a_eq,a_neq,a_cast0,a_pred,a_app1,a_zero,Int.reduceToNat, pC]
  refine callP (eqProgram_c .b .s flb fls w0 hSw0) (by simp -dsimp(disch:=first|exact om|fail)only[go_sem,↓reduceIte,Nat.reduceEqDiff,Nat.reduceAdd,Nat.reduceSub,Nat.reduceMul,Nat.reduceLT,Nat.reduceLeDiff,reduceCtorEq,a_eq,a_neq,a_cast0,a_pred,a_app1,a_zero,Int.reduceToNat, pC]) ?_
  simp -dsimp(disch:=first|exact om|fail)only[go_sem,↓reduceIte,Nat.reduceEqDiff,Nat.reduceAdd,Nat.reduceSub,Nat.reduceMul,Nat.reduceLT,Nat.reduceLeDiff,reduceCtorEq,a_eq,a_neq,a_cast0,a_pred,a_app1,a_zero,Int.reduceToNat, pC, bne_self_eq_false]
  refine callP hhw0 (.cons _ _ _ _ (le_heldP rfl rfl rfl) (.cons _ _ _ _ (.lit _) .nil)) ?_
  simp -dsimp(disch:=first|exact om|fail)only[go_sem,↓reduceIte,Nat.reduceEqDiff,Nat.reduceAdd,Nat.reduceSub,Nat.reduceMul,Nat.reduceLT,Nat.reduceLeDiff,reduceCtorEq,a_eq,a_neq,a_cast0,a_pred,a_app1,a_zero,Int.reduceToNat, pC]
theorem spec_FarkasProgram_s (p0 : Prg) (h0 : p0.small) : PC PP F_spec_FarkasProgram [pV .s p0] (pV .s (farkasP p0)) [] := spec_FarkasProgram_c .s fls p0 h0
theorem impl_FarkasProgram_i (f : Fl) (hf : f ≠ .u) (p0 : Prg) (h0 : p0.small) : GC PP F_impl_FarkasProgram [pV f p0] [] (pO (farkasP p0)) (pH (farkasP p0)) := impl_FarkasProgram_g f hf p0 h0
theorem FarkasProgram_W (p0 : Prg) (h0 : p0.small) : (farkasP p0).small ∧ (farkasP p0).len ≤ 100000 := farkasP_W p0
theorem FnExactFarkasProgram_c (f : Fl) (hf : f ≠ .u) (p0 : Prg) (g0a : p0.a.length ≤ 9223372036854775807) (g0b : p0.b.length ≤ 9223372036854775807) (g0c : p0.c.length ≤ 9223372036854775807) : PC PP F_laws_FnExactFarkasProgram [pV f p0] (Bo true) [] := by
  have hz0 := szProgram_c f hf p0 g0a g0b g0c
  have hb0 := szP_rng p0
  have hs0 := @szP_small p0
  generalize hzz0 : szP p0 = z0 at *
  refine txe W_laws_FnExactFarkasProgram ke_laws_FnExactFarkasProgram [] [] [13, 17] (by kernel_rfl) ?_
  simp -dsimp(disch:=first|exact om|fail)only[go_sem,↓reduceIte,Nat.reduceEqDiff,Nat.reduceAdd,Nat.reduceSub,Nat.reduceMul,Nat.reduceLT,Nat.reduceLeDiff,reduceCtorEq,a_eq,a_neq,a_cast0,a_pred,a_app1,a_zero,Int.reduceToNat, pC]
  refine callP hz0 (by simp -dsimp(disch:=first|exact om|fail)only[go_sem,↓reduceIte,Nat.reduceEqDiff,Nat.reduceAdd,Nat.reduceSub,Nat.reduceMul,Nat.reduceLT,Nat.reduceLeDiff,reduceCtorEq,a_eq,a_neq,a_cast0,a_pred,a_app1,a_zero,Int.reduceToNat, pC]) ?_
  simp -dsimp(disch:=first|exact om|fail)only[go_sem,↓reduceIte,Nat.reduceEqDiff,Nat.reduceAdd,Nat.reduceSub,Nat.reduceMul,Nat.reduceLT,Nat.reduceLeDiff,reduceCtorEq,a_eq,a_neq,a_cast0,a_pred,a_app1,a_zero,Int.reduceToNat, pC]
  intro qp0
  have s0 := hs0 (by omega)
  have s0k := Prg.len_le s0
  refine callP (toProgram_c f hf p0 s0) (by simp -dsimp(disch:=first|exact om|fail)only[go_sem,↓reduceIte,Nat.reduceEqDiff,Nat.reduceAdd,Nat.reduceSub,Nat.reduceMul,Nat.reduceLT,Nat.reduceLeDiff,reduceCtorEq,a_eq,a_neq,a_cast0,a_pred,a_app1,a_zero,Int.reduceToNat, pC]) ?_
  simp -dsimp(disch:=first|exact om|fail)only[go_sem,↓reduceIte,Nat.reduceEqDiff,Nat.reduceAdd,Nat.reduceSub,Nat.reduceMul,Nat.reduceLT,Nat.reduceLeDiff,reduceCtorEq,a_eq,a_neq,a_cast0,a_pred,a_app1,a_zero,Int.reduceToNat, pC]
  refine callP (spec_FarkasProgram_s p0 s0) (by simp -dsimp(disch:=first|exact om|fail)only[go_sem,↓reduceIte,Nat.reduceEqDiff,Nat.reduceAdd,Nat.reduceSub,Nat.reduceMul,Nat.reduceLT,Nat.reduceLeDiff,reduceCtorEq,a_eq,a_neq,a_cast0,a_pred,a_app1,a_zero,Int.reduceToNat, pC]) ?_
  simp -dsimp(disch:=first|exact om|fail)only[go_sem,↓reduceIte,Nat.reduceEqDiff,Nat.reduceAdd,Nat.reduceSub,Nat.reduceMul,Nat.reduceLT,Nat.reduceLeDiff,reduceCtorEq,a_eq,a_neq,a_cast0,a_pred,a_app1,a_zero,Int.reduceToNat, pC]
  refine callO' (toProgramO_c f hf p0 s0) (by simp -dsimp(disch:=first|exact om|fail)only[go_sem,↓reduceIte,Nat.reduceEqDiff,Nat.reduceAdd,Nat.reduceSub,Nat.reduceMul,Nat.reduceLT,Nat.reduceLeDiff,reduceCtorEq,a_eq,a_neq,a_cast0,a_pred,a_app1,a_zero,Int.reduceToNat, pC]) lF ?_
  simp -dsimp(disch:=first|exact om|fail)only[go_sem,↓reduceIte,Nat.reduceEqDiff,Nat.reduceAdd,Nat.reduceSub,Nat.reduceMul,Nat.reduceLT,Nat.reduceLeDiff,reduceCtorEq,a_eq,a_neq,a_cast0,a_pred,a_app1,a_zero,Int.reduceToNat, pC]
  have hig := impl_FarkasProgram_i .b flb p0 s0
  have his := impl_FarkasProgram_i .s fls p0 s0
  obtain ⟨hSw0, hKw0⟩ := FarkasProgram_W p0 s0
  generalize farkasP p0 = w0 at *
  refine callO' hig (by simp -dsimp(disch:=first|exact om|fail)only[go_sem,↓reduceIte,Nat.reduceEqDiff,Nat.reduceAdd,Nat.reduceSub,Nat.reduceMul,Nat.reduceLT,Nat.reduceLeDiff,reduceCtorEq,a_eq,a_neq,a_cast0,a_pred,a_app1,a_zero,Int.reduceToNat, pC]) lF ?_
  simp -dsimp(disch:=first|exact om|fail)only[go_sem,↓reduceIte,Nat.reduceEqDiff,Nat.reduceAdd,Nat.reduceSub,Nat.reduceMul,Nat.reduceLT,Nat.reduceLeDiff,reduceCtorEq,a_eq,a_neq,a_cast0,a_pred,a_app1,a_zero,Int.reduceToNat, pC]
  refine callP (eqProgram_c .b .s flb fls w0 hSw0) (by simp -dsimp(disch:=first|exact om|fail)only[go_sem,↓reduceIte,Nat.reduceEqDiff,Nat.reduceAdd,Nat.reduceSub,Nat.reduceMul,Nat.reduceLT,Nat.reduceLeDiff,reduceCtorEq,a_eq,a_neq,a_cast0,a_pred,a_app1,a_zero,Int.reduceToNat, pC]) ?_
  simp -dsimp(disch:=first|exact om|fail)only[go_sem,↓reduceIte,Nat.reduceEqDiff,Nat.reduceAdd,Nat.reduceSub,Nat.reduceMul,Nat.reduceLT,Nat.reduceLeDiff,reduceCtorEq,a_eq,a_neq,a_cast0,a_pred,a_app1,a_zero,Int.reduceToNat, pC, bne_self_eq_false]
  refine callP (toProgram_c f hf p0 s0) (by simp -dsimp(disch:=first|exact om|fail)only[go_sem,↓reduceIte,Nat.reduceEqDiff,Nat.reduceAdd,Nat.reduceSub,Nat.reduceMul,Nat.reduceLT,Nat.reduceLeDiff,reduceCtorEq,a_eq,a_neq,a_cast0,a_pred,a_app1,a_zero,Int.reduceToNat, pC]) ?_
  simp -dsimp(disch:=first|exact om|fail)only[go_sem,↓reduceIte,Nat.reduceEqDiff,Nat.reduceAdd,Nat.reduceSub,Nat.reduceMul,Nat.reduceLT,Nat.reduceLeDiff,reduceCtorEq,a_eq,a_neq,a_cast0,a_pred,a_app1,a_zero,Int.reduceToNat, pC]
  refine callP (eqProgram_c .b .s flb fls p0 s0) (by simp -dsimp(disch:=first|exact om|fail)only[go_sem,↓reduceIte,Nat.reduceEqDiff,Nat.reduceAdd,Nat.reduceSub,Nat.reduceMul,Nat.reduceLT,Nat.reduceLeDiff,reduceCtorEq,a_eq,a_neq,a_cast0,a_pred,a_app1,a_zero,Int.reduceToNat, pC]) ?_
  simp -dsimp(disch:=first|exact om|fail)only[go_sem,↓reduceIte,Nat.reduceEqDiff,Nat.reduceAdd,Nat.reduceSub,Nat.reduceMul,Nat.reduceLT,Nat.reduceLeDiff,reduceCtorEq,a_eq,a_neq,a_cast0,a_pred,a_app1,a_zero,Int.reduceToNat, pC]
  have hkp0 := Prg.len_le s0
  refine callG' [2, 3, 4] (markProgram_c p0 (1) s0 (by omega)) (by decide) (by simp -dsimp(disch:=first|exact om|fail)only[go_sem,↓reduceIte,Nat.reduceEqDiff,Nat.reduceAdd,Nat.reduceSub,Nat.reduceMul,Nat.reduceLT,Nat.reduceLeDiff,reduceCtorEq,a_eq,a_neq,a_cast0,a_pred,a_app1,a_zero,Int.reduceToNat, pC]) (by simp -dsimp(disch:=first|exact om|fail)only[go_sem,↓reduceIte,Nat.reduceEqDiff,Nat.reduceAdd,Nat.reduceSub,Nat.reduceMul,Nat.reduceLT,Nat.reduceLeDiff,reduceCtorEq,a_eq,a_neq,a_cast0,a_pred,a_app1,a_zero,Int.reduceToNat, pC]) lE lF ?_
  simp -dsimp(disch:=first|exact om|fail)only[go_sem,↓reduceIte,Nat.reduceEqDiff,Nat.reduceAdd,Nat.reduceSub,Nat.reduceMul,Nat.reduceLT,Nat.reduceLeDiff,reduceCtorEq,a_eq,a_neq,a_cast0,a_pred,a_app1,a_zero,Int.reduceToNat, pC]
  refine callP (eqProgram_c .b .s flb fls w0 hSw0) (by simp -dsimp(disch:=first|exact om|fail)only[go_sem,↓reduceIte,Nat.reduceEqDiff,Nat.reduceAdd,Nat.reduceSub,Nat.reduceMul,Nat.reduceLT,Nat.reduceLeDiff,reduceCtorEq,a_eq,a_neq,a_cast0,a_pred,a_app1,a_zero,Int.reduceToNat, pC]) ?_
  simp -dsimp(disch:=first|exact om|fail)only[go_sem,↓reduceIte,Nat.reduceEqDiff,Nat.reduceAdd,Nat.reduceSub,Nat.reduceMul,Nat.reduceLT,Nat.reduceLeDiff,reduceCtorEq,a_eq,a_neq,a_cast0,a_pred,a_app1,a_zero,Int.reduceToNat, pC, bne_self_eq_false]
  refine callG' [6, 7, 8] (markProgram_c w0 (1) hSw0 (by omega)) (by decide) (by simp -dsimp(disch:=first|exact om|fail)only[go_sem,↓reduceIte,Nat.reduceEqDiff,Nat.reduceAdd,Nat.reduceSub,Nat.reduceMul,Nat.reduceLT,Nat.reduceLeDiff,reduceCtorEq,a_eq,a_neq,a_cast0,a_pred,a_app1,a_zero,Int.reduceToNat, pC]) (by simp -dsimp(disch:=first|exact om|fail)only[go_sem,↓reduceIte,Nat.reduceEqDiff,Nat.reduceAdd,Nat.reduceSub,Nat.reduceMul,Nat.reduceLT,Nat.reduceLeDiff,reduceCtorEq,a_eq,a_neq,a_cast0,a_pred,a_app1,a_zero,Int.reduceToNat, pC]) lE lF ?_
  simp -dsimp(disch:=first|exact om|fail)only[go_sem,↓reduceIte,Nat.reduceEqDiff,Nat.reduceAdd,Nat.reduceSub,Nat.reduceMul,Nat.reduceLT,Nat.reduceLeDiff,reduceCtorEq,a_eq,a_neq,a_cast0,a_pred,a_app1,a_zero,Int.reduceToNat, pC]
  have hhw0 := heldProgram_c .b flb (markP w0 (1)) (1) (by obtain ⟨a1, a2, a3⟩ := hSw0; exact ⟨by show (marks _ _).length ≤ _; rw [marks_length]; omega, by show (marks _ _).length ≤ _; rw [marks_length]; omega, by show (marks _ _).length ≤ _; rw [marks_length]; omega⟩) (by omega)
  rw [heldP_mark (by omega)] at hhw0
  refine callP hhw0 (.cons _ _ _ _ (le_heldP rfl rfl rfl) (.cons _ _ _ _ (.lit _) .nil)) ?_
  simp -dsimp(disch:=first|exact om|fail)only[go_sem,↓reduceIte,Nat.reduceEqDiff,Nat.reduceAdd,Nat.reduceSub,Nat.reduceMul,Nat.reduceLT,Nat.reduceLeDiff,reduceCtorEq,a_eq,a_neq,a_cast0,a_pred,a_app1,a_zero,Int.reduceToNat, pC]
  refine callP (toProgram_c f hf p0 s0) (by simp -dsimp(disch:=first|exact om|fail)only[go_sem,↓reduceIte,Nat.reduceEqDiff,Nat.reduceAdd,Nat.reduceSub,Nat.reduceMul,Nat.reduceLT,Nat.reduceLeDiff,reduceCtorEq,a_eq,a_neq,a_cast0,a_pred,a_app1,a_zero,Int.reduceToNat, pC]) ?_
  simp -dsimp(disch:=first|exact om|fail)only[go_sem,↓reduceIte,Nat.reduceEqDiff,Nat.reduceAdd,Nat.reduceSub,Nat.reduceMul,Nat.reduceLT,Nat.reduceLeDiff,reduceCtorEq,a_eq,a_neq,a_cast0,a_pred,a_app1,a_zero,Int.reduceToNat, pC]
  refine callO' his (by simp -dsimp(disch:=first|exact om|fail)only[go_sem,↓reduceIte,Nat.reduceEqDiff,Nat.reduceAdd,Nat.reduceSub,Nat.reduceMul,Nat.reduceLT,Nat.reduceLeDiff,reduceCtorEq,a_eq,a_neq,a_cast0,a_pred,a_app1,a_zero,Int.reduceToNat, pC]) lF ?_
  simp -dsimp(disch:=first|exact om|fail)only[go_sem,↓reduceIte,Nat.reduceEqDiff,Nat.reduceAdd,Nat.reduceSub,Nat.reduceMul,Nat.reduceLT,Nat.reduceLeDiff,reduceCtorEq,a_eq,a_neq,a_cast0,a_pred,a_app1,a_zero,Int.reduceToNat, pC]
  refine callP (eqProgram_c .b .s flb fls w0 hSw0) (by simp -dsimp(disch:=first|exact om|fail)only[go_sem,↓reduceIte,Nat.reduceEqDiff,Nat.reduceAdd,Nat.reduceSub,Nat.reduceMul,Nat.reduceLT,Nat.reduceLeDiff,reduceCtorEq,a_eq,a_neq,a_cast0,a_pred,a_app1,a_zero,Int.reduceToNat, pC]) ?_
  simp -dsimp(disch:=first|exact om|fail)only[go_sem,↓reduceIte,Nat.reduceEqDiff,Nat.reduceAdd,Nat.reduceSub,Nat.reduceMul,Nat.reduceLT,Nat.reduceLeDiff,reduceCtorEq,a_eq,a_neq,a_cast0,a_pred,a_app1,a_zero,Int.reduceToNat, pC, bne_self_eq_false]
  refine callP hhw0 (.cons _ _ _ _ (le_heldP rfl rfl rfl) (.cons _ _ _ _ (.lit _) .nil)) ?_
  simp -dsimp(disch:=first|exact om|fail)only[go_sem,↓reduceIte,Nat.reduceEqDiff,Nat.reduceAdd,Nat.reduceSub,Nat.reduceMul,Nat.reduceLT,Nat.reduceLeDiff,reduceCtorEq,a_eq,a_neq,a_cast0,a_pred,a_app1,a_zero,Int.reduceToNat, pC]
end Go.Proofs.Ytpmjjdhnacmphaa
