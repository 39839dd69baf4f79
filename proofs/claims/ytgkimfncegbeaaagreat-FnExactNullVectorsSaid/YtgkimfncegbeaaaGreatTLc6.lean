/- part of the proof -/
import Derived.Test.YtgkimfncegbeaaaGreatTZd
import Derived.Test.YtgkimfncegbeaaaGreatTGr
import Derived.Test.YtgkimfncegbeaaaGreatTKb
import Derived.Test.YtgkimfncegbeaaaGreatTLa5
namespace Go.Proofs.YtgkimfncegbeaaaGreat
open Go Go.RowKit
set_option maxRecDepth 100000
set_option maxHeartbeats 4000000
set_option linter.unusedVariables false
set_option linter.unusedSimpArgs false
theorem leL_vsB {H : List Ob} {L : List (List RD)} : LeL H .b (vsC .u .u L) (vsC .b .b L) := by
  induction L with
  | nil => exact .nil
  | cons l L ih => exact .cons _ _ _ _ (.sl _ _ _ _ _ _ rfl (leL_rsC fun m => .sl _ _ _ _ _ _ (show FlLe .b .u .b from rfl) LeL.lits)) ih
theorem le_vsB {H : List Ob} {id n : Nat} {ty : TypeId} {L : List (List RD)} (h : H[id]? = some ⟨.own, ty, vsC .u .u L⟩) (hn : L.length = n) : Le H .b (.rsl id 1 0 n) (.sl .b 1 n (vsC .b .b L)) := by
  subst hn
  have hl : (vsC .u .u L).length = L.length := vsC_length
  refine Le.rsl (H := H) (f := .b) id 1 0 L.length _ _ h (.inl rfl) (by simp [vsC]) ?_
  simp only [Nat.zero_mul, List.drop_zero, Nat.mul_one]
  rw [List.take_of_length_le (by rw [hl]; exact Nat.le_refl _)]
  exact leL_vsB
theorem leL_vsS {H : List Ob} {L : List (List RD)} : LeL H .b (vsC .s .s L) (vsC .s .s L) := by
  induction L with
  | nil => exact .nil
  | cons l L ih => exact .cons _ _ _ _ (.sl _ _ _ _ _ _ (Or.inl rfl) (leL_rsC fun m => .sl _ _ _ _ _ _ (show FlLe .b .s .s from Or.inl rfl) LeL.lits)) ih
theorem le_vsS {H : List Ob} {n : Nat} {L : List (List RD)} : Le H .b (.sl .s 1 n (vsC .s .s L)) (.sl .s 1 n (vsC .s .s L)) := .sl _ _ _ _ _ _ (Or.inl rfl) leL_vsS
theorem fl_vs {L : List (List RD)} {ty : TypeId} : ∀ ob ∈ [(⟨.own, ty, vsC .u .u L⟩ : Ob)], ob.st ≠ .res ∧ ∀ c ∈ ob.cs, c.flat := by
  intro ob hob
  simp only [List.mem_cons, List.not_mem_nil, or_false] at hob
  subst hob
  exact ⟨by simp, vsC_flat⟩
theorem szLL_le {L : List (List RD)} {b : Nat} (h : ∀ l ∈ L, szL l ≤ b) : szLL L ≤ L.length * b := by
  induction L with
  | nil => simp [szLL]
  | cons l L ih =>
    rw [szLL_cons, List.length_cons, Nat.succ_mul]
    have := h l (by simp)
    have := ih fun l hl => h l (by simp [hl])
    omega
theorem NullVectors_W (p0 : MD) : smallLL (nvR p0).1 ∧ szLL (nvR p0).1 ≤ 10000000 := by
  have z : smallLL ([] : List (List RD)) ∧ szLL [] ≤ 10000000 := ⟨⟨by simp, by simp⟩, by simp [szLL]⟩
  unfold nvR
  split
  · rename_i ho
    obtain ⟨r, c, hg⟩ := MD.ok_good ho
    unfold nvQ
    split
    · rename_i a e
      have hc24 := hg.c24
      have hec := hg.ec
      have hlen := nulL_len (p := a.piv) (A := a.M) (c := p0.cols.toNat) (k := p0.cols.toNat)
      have hc : p0.cols.toNat ≤ 24 := by omega
      generalize p0.cols.toNat = n at *
      have key : ∀ l ∈ (nulL a.piv a.M n n).map (fun l => l.map qd), smallL l ∧ szL l ≤ 100000 := by
        intro l hl
        obtain ⟨l0, h0, rfl⟩ := List.mem_map.1 hl
        obtain ⟨k, _, rfl⟩ := List.mem_map.1 h0
        exact qdl_small (by rw [rowQ_length]; omega)
      refine ⟨⟨by rw [List.length_map]; omega, fun l hl => (key l hl).1⟩, ?_⟩
      have h1 := szLL_le (fun l hl => (key l hl).2)
      rw [List.length_map] at h1
      show szLL ((nulL a.piv a.M n n).map fun l => l.map qd) ≤ 10000000
      omega
    · exact z
  · exact z
theorem FnExactNullVectors_c (f : Fl) (hf : f ≠ .u) (p0 : MD) (g0 : fitL p0.cells) : PC PP F_laws_FnExactNullVectors [mtV f p0] (Bo true) [] := by
  have hz0 := szMatrix_c f hf p0 1048576 g0 (by omega)
  have hb0 := szI_rng (n := 1048576) (k := szL p0.cells) (by omega)
  have hs0 : 0 ≤ szI 1048576 (szL p0.cells) → smallL p0.cells ∧ szL p0.cells ≤ 1048576 := fun h => ⟨smallL_of (szI_small (by omega) h), szI_small (by omega) h⟩
  generalize szI 1048576 (szL p0.cells) = z0 at *
  refine txe W_laws_FnExactNullVectors ke_laws_FnExactNullVectors [] [] [13, 17] (by kernel_rfl) ?_
  simp -dsimp(disch:=first|exact om|fail)only[go_sem,↓reduceIte,Nat.reduceEqDiff,Nat.reduceAdd,Nat.reduceSub,Nat.reduceMul,Nat.reduceLT,Nat.reduceLeDiff,reduceCtorEq,a_eq,a_neq,a_cast0,a_pred,a_app1,a_zero,Int.reduceToNat]
  refine callP hz0 lL ?_
  simp -dsimp(disch:=first|exact om|fail)only[go_sem,↓reduceIte,Nat.reduceEqDiff,Nat.reduceAdd,Nat.reduceSub,Nat.reduceMul,Nat.reduceLT,Nat.reduceLeDiff,reduceCtorEq,a_eq,a_neq,a_cast0,a_pred,a_app1,a_zero,Int.reduceToNat]
  intro qp0
  obtain ⟨s0, s0k⟩ := hs0 (by omega)
  refine callP (toMatrix_c f hf p0 s0) lL ?_
  simp -dsimp(disch:=first|exact om|fail)only[go_sem,↓reduceIte,Nat.reduceEqDiff,Nat.reduceAdd,Nat.reduceSub,Nat.reduceMul,Nat.reduceLT,Nat.reduceLeDiff,reduceCtorEq,a_eq,a_neq,a_cast0,a_pred,a_app1,a_zero,Int.reduceToNat]
  refine callP (spec_NullVectors_c p0 .s fls s0) lL ?_
  simp -dsimp(disch:=first|exact om|fail)only[go_sem,↓reduceIte,Nat.reduceEqDiff,Nat.reduceAdd,Nat.reduceSub,Nat.reduceMul,Nat.reduceLT,Nat.reduceLeDiff,reduceCtorEq,a_eq,a_neq,a_cast0,a_pred,a_app1,a_zero,Int.reduceToNat]
  refine callO' (toMatrixO_c f hf p0 s0) lL lF ?_
  simp -dsimp(disch:=first|exact om|fail)only[go_sem,↓reduceIte,Nat.reduceEqDiff,Nat.reduceAdd,Nat.reduceSub,Nat.reduceMul,Nat.reduceLT,Nat.reduceLeDiff,reduceCtorEq,a_eq,a_neq,a_cast0,a_pred,a_app1,a_zero,Int.reduceToNat]
  have hig := impl_NullVectors_g p0 .b flb s0
  have his := impl_NullVectors_g p0 .s fls s0
  obtain ⟨hSw0, hKw0⟩ := NullVectors_W p0
  generalize (nvR p0).1 = w0 at *
  generalize (nvR p0).2 = w1 at *
  refine callO' hig lL fl_vs ?_
  simp -dsimp(disch:=first|exact om|fail)only[go_sem,↓reduceIte,Nat.reduceEqDiff,Nat.reduceAdd,Nat.reduceSub,Nat.reduceMul,Nat.reduceLT,Nat.reduceLeDiff,reduceCtorEq,a_eq,a_neq,a_cast0,a_pred,a_app1,a_zero,Int.reduceToNat]
  refine callP (eqRatSS_c .b .s flb fls w0 hSw0) (.cons _ _ _ _ (le_vsB rfl rfl) (.cons _ _ _ _ le_vsS .nil)) ?_
  simp -dsimp(disch:=first|exact om|fail)only[go_sem,↓reduceIte,Nat.reduceEqDiff,Nat.reduceAdd,Nat.reduceSub,Nat.reduceMul,Nat.reduceLT,Nat.reduceLeDiff,reduceCtorEq,a_eq,a_neq,a_cast0,a_pred,a_app1,a_zero,Int.reduceToNat, bne_self_eq_false]
  refine callP (toMatrix_c f hf p0 s0) lL ?_
  simp -dsimp(disch:=first|exact om|fail)only[go_sem,↓reduceIte,Nat.reduceEqDiff,Nat.reduceAdd,Nat.reduceSub,Nat.reduceMul,Nat.reduceLT,Nat.reduceLeDiff,reduceCtorEq,a_eq,a_neq,a_cast0,a_pred,a_app1,a_zero,Int.reduceToNat]
  refine callP (eqMatrix_c .b .s flb fls p0 s0) lL ?_
  simp -dsimp(disch:=first|exact om|fail)only[go_sem,↓reduceIte,Nat.reduceEqDiff,Nat.reduceAdd,Nat.reduceSub,Nat.reduceMul,Nat.reduceLT,Nat.reduceLeDiff,reduceCtorEq,a_eq,a_neq,a_cast0,a_pred,a_app1,a_zero,Int.reduceToNat]
  refine callG' [1] (markMatrix_c p0 (1) s0 (by omega) (by omega)) (by decide) lL lL lE lF ?_
  simp -dsimp(disch:=first|exact om|fail)only[go_sem,↓reduceIte,Nat.reduceEqDiff,Nat.reduceAdd,Nat.reduceSub,Nat.reduceMul,Nat.reduceLT,Nat.reduceLeDiff,reduceCtorEq,a_eq,a_neq,a_cast0,a_pred,a_app1,a_zero,Int.reduceToNat]
  refine callP (eqRatSS_c .b .s flb fls w0 hSw0) (.cons _ _ _ _ (le_vsB rfl rfl) (.cons _ _ _ _ le_vsS .nil)) ?_
  simp -dsimp(disch:=first|exact om|fail)only[go_sem,↓reduceIte,Nat.reduceEqDiff,Nat.reduceAdd,Nat.reduceSub,Nat.reduceMul,Nat.reduceLT,Nat.reduceLeDiff,reduceCtorEq,a_eq,a_neq,a_cast0,a_pred,a_app1,a_zero,Int.reduceToNat, bne_self_eq_false]
  refine callG' [3] (markRatSS_c w0 (1) hSw0 (by omega) (by omega)) (by decide) ⟨⟨rfl, rfl, vsC_flat⟩, trivial⟩ lL lE fl_vs ?_
  simp -dsimp(disch:=first|exact om|fail)only[go_sem,↓reduceIte,Nat.reduceEqDiff,Nat.reduceAdd,Nat.reduceSub,Nat.reduceMul,Nat.reduceLT,Nat.reduceLeDiff,reduceCtorEq,a_eq,a_neq,a_cast0,a_pred,a_app1,a_zero,Int.reduceToNat]
  have hhw0 := heldRatSS_m .b flb w0 (1) hSw0 (by omega) (by omega)
  have hlm := markSS_length w0 1
  refine callP hhw0 (.cons _ _ _ _ (le_vsB rfl hlm) (.cons _ _ _ _ (.lit _) .nil)) ?_
  simp -dsimp(disch:=first|exact om|fail)only[go_sem,↓reduceIte,Nat.reduceEqDiff,Nat.reduceAdd,Nat.reduceSub,Nat.reduceMul,Nat.reduceLT,Nat.reduceLeDiff,reduceCtorEq,a_eq,a_neq,a_cast0,a_pred,a_app1,a_zero,Int.reduceToNat]
  refine callP (toMatrix_c f hf p0 s0) lL ?_
  simp -dsimp(disch:=first|exact om|fail)only[go_sem,↓reduceIte,Nat.reduceEqDiff,Nat.reduceAdd,Nat.reduceSub,Nat.reduceMul,Nat.reduceLT,Nat.reduceLeDiff,reduceCtorEq,a_eq,a_neq,a_cast0,a_pred,a_app1,a_zero,Int.reduceToNat]
  refine callO' his lL fl_vs ?_
  simp -dsimp(disch:=first|exact om|fail)only[go_sem,↓reduceIte,Nat.reduceEqDiff,Nat.reduceAdd,Nat.reduceSub,Nat.reduceMul,Nat.reduceLT,Nat.reduceLeDiff,reduceCtorEq,a_eq,a_neq,a_cast0,a_pred,a_app1,a_zero,Int.reduceToNat]
  refine callP (eqRatSS_c .b .s flb fls w0 hSw0) (.cons _ _ _ _ (le_vsB rfl rfl) (.cons _ _ _ _ le_vsS .nil)) ?_
  simp -dsimp(disch:=first|exact om|fail)only[go_sem,↓reduceIte,Nat.reduceEqDiff,Nat.reduceAdd,Nat.reduceSub,Nat.reduceMul,Nat.reduceLT,Nat.reduceLeDiff,reduceCtorEq,a_eq,a_neq,a_cast0,a_pred,a_app1,a_zero,Int.reduceToNat, bne_self_eq_false]
  refine callP hhw0 (.cons _ _ _ _ (le_vsB rfl hlm) (.cons _ _ _ _ (.lit _) .nil)) ?_
  simp -dsimp(disch:=first|exact om|fail)only[go_sem,↓reduceIte,Nat.reduceEqDiff,Nat.reduceAdd,Nat.reduceSub,Nat.reduceMul,Nat.reduceLT,Nat.reduceLeDiff,reduceCtorEq,a_eq,a_neq,a_cast0,a_pred,a_app1,a_zero,Int.reduceToNat]
end Go.Proofs.YtgkimfncegbeaaaGreat
