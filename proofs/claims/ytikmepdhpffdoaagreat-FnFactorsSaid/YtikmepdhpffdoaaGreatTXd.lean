/- part of the proof -/
import Derived.Test.YtikmepdhpffdoaaGreatTKa
import Derived.Test.YtikmepdhpffdoaaGreatTXc
namespace Go.Proofs.YtikmepdhpffdoaaGreat
open Go Go.RowKit
set_option maxRecDepth 100000
set_option maxHeartbeats 4000000
set_option linter.unusedVariables false
set_option linter.unusedSimpArgs false
def gridL (n c : Nat) (M : Nat → Nat → FQ) : List FQ := (List.range n).flatMap fun i => rowQ c (M i)
theorem gridL_succ {n c : Nat} {M : Nat → Nat → FQ} : gridL (n + 1) c M = gridL n c M ++ rowQ c (M n) := by simp [gridL, List.range_succ]
@[go_sem] theorem gridL_length {n c : Nat} {M : Nat → Nat → FQ} : (gridL n c M).length = n * c := by
  induction n with
  | zero => simp [gridL]
  | succ n ih => rw [gridL_succ, List.length_append, ih, rowQ_length, Nat.succ_mul]
theorem allG_app {a b : List FQ} : allG (a ++ b) = (allG a && allG b) := by unfold allG; rw [List.all_append]
theorem gridL_no {n c k : Nat} {M : Nat → Nat → FQ} (hk : k < n) (h : allG (rowQ c (M k)) = false) : allG (gridL n c M) = false := by
  induction n with
  | zero => omega
  | succ n ih =>
    rw [gridL_succ, allG_app]
    rcases Nat.lt_or_eq_of_le (Nat.le_of_lt_succ hk) with h1 | rfl
    · rw [ih h1]; rfl
    · rw [h]; simp
def cloQ (n c : Nat) (M : Nat → Nat → FQ) : MD × Bool := if allG (gridL n c M) = true then (⟨n, c, (gridL n c M).map qd⟩, true) else (MD.zero, false)
abbrev moG (p : MD × Bool) : V := .tup [mtO p.1, Bo p.2]
@[go_sem] theorem mdz_rows : MD.zero.rows = 0 := (rfl)
@[go_sem] theorem mdz_cols : MD.zero.cols = 0 := (rfl)
@[go_sem] theorem mdz_cells : MD.zero.cells = [] := (rfl)
@[go_sem] theorem le_rowQ {H : List Ob} {f g : Fl} {c : Nat} {M : Nat → FQ} (hf : f ≠ .u) (hg : g ≠ .u) : Le H .b (.sl f 1 c (qs g (rowQ c M))) (sQ f g (rowQ c M)) = True := by
  rw [le_sQn hf hg (OM.mk (by rw [rowQ_length]))]
theorem closed_g (n c : Nat) (hn : n ≤ 24) (hc : c ≤ 24) (f : Fl) (hf : f ≠ .u) (M : Nat → Nat → FQ) : GC PP F_impl_grid_closed [gV f n c M] [] (moG (cloQ n c M)) (mtH (cloQ n c M).1) := by
  have hnc := rc_le hn hc
  refine txg W_impl_grid_closed ke_impl_grid_closed 0 [] [] [8] rfl (by kernel_rfl) ?_
  simp -dsimp(disch:=first|exact om|fail)only[go_sem,↓reduceIte,Nat.reduceEqDiff,Nat.reduceAdd,Nat.reduceSub,Nat.reduceMul,Nat.reduceLT,Nat.reduceLeDiff,reduceCtorEq,a_eq,a_neq,a_cast0,a_pred,a_app1,a_zero,Int.reduceToNat]
  refine loopJ (fun k : Nat => k ≤ n ∧ allG (gridL k c M) = true) (fun k => ⟨[(2, .ref 0 0), (4, .ref 1 0), (15, .sl f 1 n (gC f f n c M)), (16, I n), (17, I k)], [⟨.own, T_impl_Matrix, [I 0, I 0, .emp]⟩, ⟨.own, T_impl_Matrix, [I n, I c, .rsl 2 3 0 (k * c)]⟩, ⟨.own, T_impl_Rat, rsC .u ((gridL k c M).map qd)⟩]⟩) (fun k => n - k) 0 ⟨by omega, rfl⟩ ?_ ?_
  · refine StI.ren [some 1, some 2, none] [[], [], []] lE (by decide) ?_ lW
    simp -dsimp(disch:=first|exact om|fail)only[go_sem,↓reduceIte,Nat.reduceEqDiff,Nat.reduceAdd,Nat.reduceSub,Nat.reduceMul,Nat.reduceLT,Nat.reduceLeDiff,reduceCtorEq,a_eq,a_neq,a_cast0,a_pred,a_app1,a_zero,Int.reduceToNat, Nat.zero_mul, show (gridL 0 c M).map qd = [] from rfl]
  rintro k ⟨hk, hp⟩
  by_cases h : k < n
  · have hkc : (k + 1) * c ≤ n * c := Nat.mul_le_mul_right c h
    rw [Nat.succ_mul] at hkc
    have hgl : ((gridL k c M).map qd).length = k * c := by rw [List.length_map, gridL_length]
    have hgs : (gridL (k + 1) c M).map qd = (gridL k c M).map qd ++ (rowQ c (M k)).map qd := by rw [gridL_succ, List.map_append]
    have hrl : ((rowQ c (M k)).map qd).length = c := by rw [List.length_map, rowQ_length]
    cases hg : allG (rowQ c (M k))
    · rw [show cloQ n c M = (MD.zero, false) by unfold cloQ; rw [gridL_no h hg]; rfl]
      simp -dsimp(disch:=first|exact om|fail)only[go_sem,↓reduceIte,Nat.reduceEqDiff,Nat.reduceAdd,Nat.reduceSub,Nat.reduceMul,Nat.reduceLT,Nat.reduceLeDiff,reduceCtorEq,a_eq,a_neq,a_cast0,a_pred,a_app1,a_zero,Int.reduceToNat]
      refine callO' (stores_no f f hf hf (rowQ c (M k)) (by rw [rowQ_length]; omega) hg) lW lF ?_
      simp -dsimp(disch:=first|exact om|fail)only[go_sem,↓reduceIte,Nat.reduceEqDiff,Nat.reduceAdd,Nat.reduceSub,Nat.reduceMul,Nat.reduceLT,Nat.reduceLeDiff,reduceCtorEq,a_eq,a_neq,a_cast0,a_pred,a_app1,a_zero,Int.reduceToNat]
      exact RtG.ren [none] [[]] trivial (by decide) lW lW
    · simp -dsimp(disch:=first|exact om|fail)only[go_sem,↓reduceIte,Nat.reduceEqDiff,Nat.reduceAdd,Nat.reduceSub,Nat.reduceMul,Nat.reduceLT,Nat.reduceLeDiff,reduceCtorEq,a_eq,a_neq,a_cast0,a_pred,a_app1,a_zero,Int.reduceToNat]
      refine callO' (stores_ok f f hf hf (rowQ c (M k)) (by rw [rowQ_length]; omega) hg) lW lF ?_
      have hp1 : allG (gridL (k + 1) c M) = true := by rw [gridL_succ, allG_app, hp, hg]; rfl
      generalize (gridL k c M).map qd = L1 at *
      generalize (rowQ c (M k)).map qd = L2 at *
      simp -dsimp(disch:=first|exact om|fail)only[go_sem,↓reduceIte,Nat.reduceEqDiff,Nat.reduceAdd,Nat.reduceSub,Nat.reduceMul,Nat.reduceLT,Nat.reduceLeDiff,reduceCtorEq,a_eq,a_neq,a_cast0,a_pred,a_app1,a_zero,Int.reduceToNat, hgl, hrl]
      refine ⟨k + 1, ⟨by omega, hp1⟩, by omega, ?_⟩
      rw [Nat.succ_mul, hgs]
      refine StI.ren [some 0, some 1, some 4] [[], [], []] lE (by decide) ?_ lW
      rw [rsC_append]
      simp -dsimp(disch:=first|exact om|fail)only[go_sem,↓reduceIte,Nat.reduceEqDiff,Nat.reduceAdd,Nat.reduceSub,Nat.reduceMul,Nat.reduceLT,Nat.reduceLeDiff,reduceCtorEq,a_eq,a_neq,a_cast0,a_pred,a_app1,a_zero,Int.reduceToNat]
      exact RnL.app (k1 := []) (rnL_rsC (by simp)) (rnL_rsC (by simp))
  · obtain rfl : k = n := by omega
    have hgl : ((gridL k c M).map qd).length = k * c := by rw [List.length_map, gridL_length]
    rw [show cloQ k c M = (⟨k, c, (gridL k c M).map qd⟩, true) by unfold cloQ; rw [if_pos hp]]
    simp -dsimp(disch:=first|exact om|fail)only[go_sem,↓reduceIte,Nat.reduceEqDiff,Nat.reduceAdd,Nat.reduceSub,Nat.reduceMul,Nat.reduceLT,Nat.reduceLeDiff,reduceCtorEq,a_eq,a_neq,a_cast0,a_pred,a_app1,a_zero,Int.reduceToNat]
    refine RtG.nothing [some 2] lE (by decide) ?_ (by simp -dsimp(disch:=first|exact om|fail)only[go_sem,↓reduceIte,Nat.reduceEqDiff,Nat.reduceAdd,Nat.reduceSub,Nat.reduceMul,Nat.reduceLT,Nat.reduceLeDiff,reduceCtorEq,a_eq,a_neq,a_cast0,a_pred,a_app1,a_zero,Int.reduceToNat, hgl])
    simp -dsimp(disch:=first|exact om|fail)only[go_sem,↓reduceIte,Nat.reduceEqDiff,Nat.reduceAdd,Nat.reduceSub,Nat.reduceMul,Nat.reduceLT,Nat.reduceLeDiff,reduceCtorEq,a_eq,a_neq,a_cast0,a_pred,a_app1,a_zero,Int.reduceToNat, List.map_cons, List.map_nil]
@[go_sem] theorem le_gC {H : List Ob} {n c : Nat} {M : Nat → Nat → FQ} : Le H .b (.sl .b 1 n (gC .b .b n c M)) (.sl .b 1 n (gC .b .b n c M)) = True := eq_true (.sl _ _ _ _ _ _ ⟨rfl, rfl⟩ leL_gC)
theorem transposed1_b (r c : Nat) (hr : r ≤ 24) (hc : c ≤ 24) (M : Nat → Nat → FQ) (i k : Nat) (hi : i < c) (hk : k < r) :
    PB PP F_impl_grid_transposed_1 [I i, I k, .ptr .b [I r, I c, .sl .b 1 r (gC .b .b r c M)]] (pQ .b (M k i)) [] := by
  refine txb W_impl_grid_transposed_1 ke_impl_grid_transposed_1 [] [] [] (by kernel_rfl) ?_
  simp -dsimp(disch:=first|exact om|fail)only[go_sem,↓reduceIte,Nat.reduceEqDiff,Nat.reduceAdd,Nat.reduceSub,Nat.reduceMul,Nat.reduceLT,Nat.reduceLeDiff,reduceCtorEq,a_eq,a_neq,a_cast0,a_pred,a_app1,a_zero,Int.reduceToNat]
  exact RtB.nothing [] (by decide) trivial lW
theorem transposed_b (r c : Nat) (hr : r ≤ 24) (hc : c ≤ 24) (M : Nat → Nat → FQ) : PB PP F_impl_grid_transposed [gV .b r c M] (gV .b c r (fun i k => M k i)) [] := by
  refine txb W_impl_grid_transposed ke_impl_grid_transposed [] [1] [] (by kernel_rfl) ?_
  simp -dsimp(disch:=first|exact om|fail)only[go_sem,↓reduceIte,Nat.reduceEqDiff,Nat.reduceAdd,Nat.reduceSub,Nat.reduceMul,Nat.reduceLT,Nat.reduceLeDiff,reduceCtorEq,a_eq,a_neq,a_cast0,a_pred,a_app1,a_zero,Int.reduceToNat]
  refine ⟨⟨[(1, .ptr .b [I r, I c, .sl .b 1 r (gC .b .b r c M)]), (2, .ref 0 0)], [⟨.own, T_impl_grid, [I 0, I 0, .emp]⟩]⟩, (StI.shareb 0 (cs' := [I r, I c, .sl .b 1 r (gC .b .b r c M)]) rfl lW lW lW).trans (StI.ren [some 1] [[]] lE (by decide) lW lW), ?_⟩
  simp -dsimp(disch:=first|exact om|fail)only[go_sem,↓reduceIte,Nat.reduceEqDiff,Nat.reduceAdd,Nat.reduceSub,Nat.reduceMul,Nat.reduceLT,Nat.reduceLeDiff,reduceCtorEq,a_eq,a_neq,a_cast0,a_pred,a_app1,a_zero,Int.reduceToNat]
  refine callB' (newGrid_b c r (by omega) (by omega) _ [] [.ptr .b [I r, I c, .sl .b 1 r (gC .b .b r c M)]] (by simp [V.fl1]) (fun i k => M k i) .b flb (fun i k hi hk => transposed1_b r c hr hc M i k hi hk)) ?_ lF ?_
  · simp [V.fl2, V.fl1]
  simp -dsimp(disch:=first|exact om|fail)only[go_sem,↓reduceIte,Nat.reduceEqDiff,Nat.reduceAdd,Nat.reduceSub,Nat.reduceMul,Nat.reduceLT,Nat.reduceLeDiff,reduceCtorEq,a_eq,a_neq,a_cast0,a_pred,a_app1,a_zero,Int.reduceToNat]
  exact RtB.nothing [] (by decide) trivial lW
def gridR (n c : Nat) (N : Nat → Nat → RD) : List RD := (List.range n).flatMap fun i => (List.range c).map (N i)
def trM (m : MD) : MD := if m.ok = true then ⟨m.cols, m.rows, gridR m.cols.toNat m.rows.toNat fun k i => m.cells.getD (i * m.cols.toNat + k) RD.zero⟩ else MD.zero
theorem trM_ok {m : MD} {r c : Nat} (ho : m.ok = true) (hg : m.Good r c) : trM m = ⟨c, r, gridR c r fun k i => m.cells.getD (i * c + k) RD.zero⟩ := by
  unfold trM
  rw [if_pos ho, hg.er, hg.ec]; rfl
theorem gridL_qd {n c : Nat} {M : Nat → Nat → FQ} {N : Nat → Nat → RD} (h : ∀ i k, i < n → k < c → qd (M i k) = N i k) : (gridL n c M).map qd = gridR n c N := by
  unfold gridL gridR
  rw [List.map_flatMap, List.flatMap_def, List.flatMap_def]
  refine congrArg List.flatten (List.map_congr_left fun i hi => ?_)
  unfold rowQ
  rw [List.map_map]
  exact List.map_congr_left fun k hk => h i k (List.mem_range.1 hi) (List.mem_range.1 hk)
theorem allG_mem {l : List FQ} : allG l = true ↔ ∀ x ∈ l, x.good = true := by unfold allG; rw [List.all_eq_true]
theorem gridL_all {n c : Nat} {M : Nat → Nat → FQ} (h : ∀ i k, i < n → k < c → (M i k).good = true) : allG (gridL n c M) = true := by
  rw [allG_mem]
  intro x hx
  obtain ⟨i, hi, hx⟩ := List.mem_flatMap.1 hx
  obtain ⟨k, hk, rfl⟩ := List.mem_map.1 hx
  exact h i k (List.mem_range.1 hi) (List.mem_range.1 hk)
theorem MD.at_ok {m : MD} {r c i k : Nat} (hg : m.Good r c) (hi : i < r) (hk : k < c) : (m.at c i k).good = true ∧ qd (m.at c i k) = m.cells.getD (i * c + k) RD.zero := by
  have := getD_all hg.all (d := RD.zero) (i := i * c + k) (by rw [hg.len]; exact ix_lt hi hk)
  unfold MD.at
  exact ⟨by rw [rdq_good]; exact this, qd_rdq this⟩
theorem cloQ_tr {m : MD} {r c : Nat} (ho : m.ok = true) (hg : m.Good r c) : cloQ c r (fun i k => m.at c k i) = (trM m, true) := by
  unfold cloQ
  rw [if_pos (gridL_all fun i k hi hk => (MD.at_ok hg hk hi).1), trM_ok ho hg, gridL_qd fun i k hi hk => (MD.at_ok hg hk hi).2]
theorem impl_Transpose_g (m : MD) (f : Fl) (hf : f ≠ .u) (hs : smallL m.cells) : GC PP F_impl_Transpose [mtV f m] [] (mtO (trM m)) (mtH (trM m)) := by
  refine txg W_impl_Transpose ke_impl_Transpose 0 [] [] [] rfl (by kernel_rfl) ?_
  simp -dsimp(disch:=first|exact om|fail)only[go_sem,↓reduceIte,Nat.reduceEqDiff,Nat.reduceAdd,Nat.reduceSub,Nat.reduceMul,Nat.reduceLT,Nat.reduceLeDiff,reduceCtorEq,a_eq,a_neq,a_cast0,a_pred,a_app1,a_zero,Int.reduceToNat]
  cases ho : m.ok
  · rw [show trM m = MD.zero by unfold trM; rw [ho]; rfl]
    refine callB' (open_no m f hf ho hs) lB lF ?_
    simp -dsimp(disch:=first|exact om|fail)only[go_sem,↓reduceIte,Nat.reduceEqDiff,Nat.reduceAdd,Nat.reduceSub,Nat.reduceMul,Nat.reduceLT,Nat.reduceLeDiff,reduceCtorEq,a_eq,a_neq,a_cast0,a_pred,a_app1,a_zero,Int.reduceToNat]
    exact RtG.ren [none] [[]] trivial (by decide) lW lW
  · obtain ⟨r, c, hg⟩ := MD.ok_good ho
    have hq := closed_g c r hg.c24 hg.r24 .b flb (fun i k => m.at c k i)
    rw [cloQ_tr ho hg] at hq
    refine callB' (open_ok m f hf r c hg hs) lB lF ?_
    simp -dsimp(disch:=first|exact om|fail)only[go_sem,↓reduceIte,Nat.reduceEqDiff,Nat.reduceAdd,Nat.reduceSub,Nat.reduceMul,Nat.reduceLT,Nat.reduceLeDiff,reduceCtorEq,a_eq,a_neq,a_cast0,a_pred,a_app1,a_zero,Int.reduceToNat]
    refine callB' (transposed_b r c hg.r24 hg.c24 (m.at c)) lB lF ?_
    simp -dsimp(disch:=first|exact om|fail)only[go_sem,↓reduceIte,Nat.reduceEqDiff,Nat.reduceAdd,Nat.reduceSub,Nat.reduceMul,Nat.reduceLT,Nat.reduceLeDiff,reduceCtorEq,a_eq,a_neq,a_cast0,a_pred,a_app1,a_zero,Int.reduceToNat]
    refine callO' hq lL lF ?_
    simp -dsimp(disch:=first|exact om|fail)only[go_sem,↓reduceIte,Nat.reduceEqDiff,Nat.reduceAdd,Nat.reduceSub,Nat.reduceMul,Nat.reduceLT,Nat.reduceLeDiff,reduceCtorEq,a_eq,a_neq,a_cast0,a_pred,a_app1,a_zero,Int.reduceToNat]
    exact RtG.nothing [some 3] lE (by decide) (by simp -dsimp(disch:=first|exact om|fail)only[go_sem,↓reduceIte,Nat.reduceEqDiff,Nat.reduceAdd,Nat.reduceSub,Nat.reduceMul,Nat.reduceLT,Nat.reduceLeDiff,reduceCtorEq,a_eq,a_neq,a_cast0,a_pred,a_app1,a_zero,Int.reduceToNat, List.map_cons, List.map_nil]) lW
end Go.Proofs.YtikmepdhpffdoaaGreat
namespace Go.Proofs.YtikmepdhpffdoaaGreat
open Go Go.RowKit
set_option maxRecDepth 100000
set_option maxHeartbeats 4000000
set_option linter.unusedVariables false
set_option linter.unusedSimpArgs false
theorem impl_EqualMatrices_c (f g : Fl) (hf : f ≠ .u) (hg : g ≠ .u) (a b : MD) (ha : fitL a.cells) (hb : fitL b.cells) : PC PP F_impl_EqualMatrices [mtV f a, mtV g b] (Bo (decide (a = b))) [] := by
  refine tx W_impl_EqualMatrices ke_impl_EqualMatrices [] (by kernel_rfl) ?_
  by_cases h1 : a.rows = b.rows
  · by_cases h2 : a.cols = b.cols
    · simp -dsimp(disch:=first|exact om|fail)only[go_sem,↓reduceIte,Nat.reduceEqDiff,Nat.reduceAdd,Nat.reduceSub,Nat.reduceMul,Nat.reduceLT,Nat.reduceLeDiff,reduceCtorEq,a_eq,a_neq,a_cast0,a_pred,a_app1,a_zero,Int.reduceToNat, h1, h2]
      refine callP (impl_EqualVectors_c f g hf hg a.cells b.cells ha hb) lL ?_
      simp -dsimp(disch:=first|exact om|fail)only[go_sem,↓reduceIte,Nat.reduceEqDiff,Nat.reduceAdd,Nat.reduceSub,Nat.reduceMul,Nat.reduceLT,Nat.reduceLeDiff,reduceCtorEq,a_eq,a_neq,a_cast0,a_pred,a_app1,a_zero,Int.reduceToNat]
      refine decide_eq_decide.2 ⟨fun h => ?_, fun h => by rw [h]⟩
      obtain ⟨ar, ac, al⟩ := a
      obtain ⟨br, bc, bl⟩ := b
      obtain rfl : ar = br := h1
      obtain rfl : ac = bc := h2
      obtain rfl : al = bl := h
      rfl
    · rw [decide_eq_false (by rintro rfl; exact h2 rfl)]
      simp -dsimp(disch:=first|exact om|fail)only[go_sem,↓reduceIte,Nat.reduceEqDiff,Nat.reduceAdd,Nat.reduceSub,Nat.reduceMul,Nat.reduceLT,Nat.reduceLeDiff,reduceCtorEq,a_eq,a_neq,a_cast0,a_pred,a_app1,a_zero,Int.reduceToNat, h1, h2]
  · rw [decide_eq_false (by rintro rfl; exact h1 rfl)]
    simp -dsimp(disch:=first|exact om|fail)only[go_sem,↓reduceIte,Nat.reduceEqDiff,Nat.reduceAdd,Nat.reduceSub,Nat.reduceMul,Nat.reduceLT,Nat.reduceLeDiff,reduceCtorEq,a_eq,a_neq,a_cast0,a_pred,a_app1,a_zero,Int.reduceToNat, h1]
theorem gridR_succ {n c : Nat} {N : Nat → Nat → RD} : gridR (n + 1) c N = gridR n c N ++ (List.range c).map (N n) := by simp [gridR, List.range_succ]
theorem gridR_length {n c : Nat} {N : Nat → Nat → RD} : (gridR n c N).length = n * c := by
  induction n with
  | zero => simp [gridR]
  | succ n ih => rw [gridR_succ, List.length_append, ih, List.length_map, List.length_range, Nat.succ_mul]
def partR (n c k : Nat) (N : Nat → Nat → RD) : List RD := gridR n c N ++ (List.range k).map (N n)
theorem partR_zero {n c : Nat} {N : Nat → Nat → RD} : partR n c 0 N = gridR n c N := by simp [partR]
theorem partR_full {n c : Nat} {N : Nat → Nat → RD} : partR n c c N = gridR (n + 1) c N := by rw [gridR_succ]; rfl
theorem partR_length {n c k : Nat} {N : Nat → Nat → RD} : (partR n c k N).length = n * c + k := by simp [partR, gridR_length]
theorem partR_succ {f : Fl} {n c k : Nat} {N : Nat → Nat → RD} : rsC f (partR n c k N) ++ [Bo (N n k).neg, sI f (N n k).mag, sI f (N n k).den] = rsC f (partR n c (k + 1) N) := by
  rw [rs_app]; congr 1; simp [partR, List.range_succ]
theorem l06Transpose_c (m : MD) (f : Fl) (hf : f ≠ .u) (r c : Nat) (hg : m.Good r c) (hs : smallL m.cells) :
    PC PP F_spec_l06Transpose [mtV f m] (mtV .s ⟨c, r, gridR c r fun k i => m.cells.getD (i * c + k) RD.zero⟩) [] := by
  have hr := hg.er
  have hc := hg.ec
  have h24 := hg.r24
  have h24' := hg.c24
  have hlen := hg.len
  generalize hNe : (fun k i => m.cells.getD (i * c + k) RD.zero) = N
  have hN : ∀ k i, k < c → i < r → (N k i).small ∧ PB PP F_spec_l06At [V.agg [I r, I c, sR f m.cells], I i, I k] (rV .b (N k i)) [] := by
    intro k i hk hi
    have q := l06At_b m f hf r c i k hg hs hi hk
    simp only [mtV, mtC, hr, hc] at q
    rw [← hNe]
    exact ⟨hs.getD (by rw [hlen]; exact ix_lt hi hk), q⟩
  refine txe W_spec_l06Transpose ke_spec_l06Transpose [(9, [3])] [] [] (by kernel_rfl) ?_
  simp -dsimp(disch:=first|exact om|fail)only[go_sem,↓reduceIte,Nat.reduceEqDiff,Nat.reduceAdd,Nat.reduceSub,Nat.reduceMul,Nat.reduceLT,Nat.reduceLeDiff,reduceCtorEq,a_eq,a_neq,a_cast0,a_pred,a_app1,a_zero,Int.reduceToNat, hr, hc]
  refine loopJ (fun k : Nat => k ≤ c) (fun k => ⟨[(1, .ref 0 0), (2, .ref 1 0), (3, .ref 2 0), (4, I k)], [⟨.own, T_impl_Matrix, [I r, I c, sR f m.cells]⟩, ⟨.own, T_impl_Matrix, [I 0, I 0, .emp]⟩, ⟨.own, T_impl_Matrix, [I c, I r, .rsl 3 3 0 (k * r)]⟩, ⟨.own, T_impl_Rat, rsC .s (gridR k r N)⟩]⟩) (fun k => c - k) 0 (by omega) ?_ ?_
  · refine StI.ren [some 0, some 1, some 2, none] [[], [], [], []] lE (by decide) ?_ lW
    simp -dsimp(disch:=first|exact om|fail)only[go_sem,↓reduceIte,Nat.reduceEqDiff,Nat.reduceAdd,Nat.reduceSub,Nat.reduceMul,Nat.reduceLT,Nat.reduceLeDiff,reduceCtorEq,a_eq,a_neq,a_cast0,a_pred,a_app1,a_zero,Int.reduceToNat, Nat.zero_mul, show gridR 0 r N = [] from rfl]
  intro k hk
  by_cases h : k < c
  · have hkr : (k + 1) * r ≤ c * r := Nat.mul_le_mul_right r h
    have hcr := rc_le h24' h24
    rw [Nat.succ_mul] at hkr
    simp -dsimp(disch:=first|exact om|fail)only[go_sem,↓reduceIte,Nat.reduceEqDiff,Nat.reduceAdd,Nat.reduceSub,Nat.reduceMul,Nat.reduceLT,Nat.reduceLeDiff,reduceCtorEq,a_eq,a_neq,a_cast0,a_pred,a_app1,a_zero,Int.reduceToNat]
    refine loopJ (fun i : Nat => i ≤ r) (fun i => ⟨[(1, .ref 0 0), (2, .ref 1 0), (3, .ref 2 0), (4, I k), (5, I i)], [⟨.own, T_impl_Matrix, [I r, I c, sR f m.cells]⟩, ⟨.own, T_impl_Matrix, [I 0, I 0, .emp]⟩, ⟨.own, T_impl_Matrix, [I c, I r, .rsl 3 3 0 (k * r + i)]⟩, ⟨.own, T_impl_Rat, rsC .s (partR k r i N)⟩]⟩) (fun i => r - i) 0 (by omega) ?_ ?_
    · refine StI.ren [some 0, some 1, some 2, some 3] [[], [], [], []] lE (by decide) ?_ lW
      rw [partR_zero]
      simp -dsimp(disch:=first|exact om|fail)only[go_sem,↓reduceIte,Nat.reduceEqDiff,Nat.reduceAdd,Nat.reduceSub,Nat.reduceMul,Nat.reduceLT,Nat.reduceLeDiff,reduceCtorEq,a_eq,a_neq,a_cast0,a_pred,a_app1,a_zero,Int.reduceToNat, Nat.add_zero]
    intro i hi
    by_cases h2 : i < r
    · obtain ⟨hsm, q⟩ := hN k i h h2
      have hpl := partR_length (n := k) (c := r) (k := i) (N := N)
      simp -dsimp(disch:=first|exact om|fail)only[go_sem,↓reduceIte,Nat.reduceEqDiff,Nat.reduceAdd,Nat.reduceSub,Nat.reduceMul,Nat.reduceLT,Nat.reduceLeDiff,reduceCtorEq,a_eq,a_neq,a_cast0,a_pred,a_app1,a_zero,Int.reduceToNat]
      refine callB' q lB lF ?_
      simp -dsimp(disch:=first|exact om|fail)only[go_sem,↓reduceIte,Nat.reduceEqDiff,Nat.reduceAdd,Nat.reduceSub,Nat.reduceMul,Nat.reduceLT,Nat.reduceLeDiff,reduceCtorEq,a_eq,a_neq,a_cast0,a_pred,a_app1,a_zero,Int.reduceToNat]
      refine callP (l04Copy_c .b flb (N k i) ⟨hsm.1, hsm.2⟩) lL ?_
      simp -dsimp(disch:=first|exact om|fail)only[go_sem,↓reduceIte,Nat.reduceEqDiff,Nat.reduceAdd,Nat.reduceSub,Nat.reduceMul,Nat.reduceLT,Nat.reduceLeDiff,reduceCtorEq,a_eq,a_neq,a_cast0,a_pred,a_app1,a_zero,Int.reduceToNat, hpl]
      rw [partR_succ]
      exact ⟨i + 1, by omega, by omega, StI.ren [some 0, some 1, some 2, some 4] [[], [], [], []] lE (by decide) (by simp -dsimp(disch:=first|exact om|fail)only[go_sem,↓reduceIte,Nat.reduceEqDiff,Nat.reduceAdd,Nat.reduceSub,Nat.reduceMul,Nat.reduceLT,Nat.reduceLeDiff,reduceCtorEq,a_eq,a_neq,a_cast0,a_pred,a_app1,a_zero,Int.reduceToNat]; omega) lW⟩
    · obtain rfl : i = r := by omega
      simp -dsimp(disch:=first|exact om|fail)only[go_sem,↓reduceIte,Nat.reduceEqDiff,Nat.reduceAdd,Nat.reduceSub,Nat.reduceMul,Nat.reduceLT,Nat.reduceLeDiff,reduceCtorEq,a_eq,a_neq,a_cast0,a_pred,a_app1,a_zero,Int.reduceToNat]
      refine ⟨k + 1, by omega, by omega, ?_⟩
      rw [partR_full, Nat.succ_mul]
      refine StI.ren [some 0, some 1, some 2, some 3] [[], [], [], []] lE (by decide) ?_ lW
      simp -dsimp(disch:=first|exact om|fail)only[go_sem,↓reduceIte,Nat.reduceEqDiff,Nat.reduceAdd,Nat.reduceSub,Nat.reduceMul,Nat.reduceLT,Nat.reduceLeDiff,reduceCtorEq,a_eq,a_neq,a_cast0,a_pred,a_app1,a_zero,Int.reduceToNat]
  · obtain rfl : k = c := by omega
    have hgl := gridR_length (n := k) (c := r) (N := N)
    simp -dsimp(disch:=first|exact om|fail)only[go_sem,↓reduceIte,Nat.reduceEqDiff,Nat.reduceAdd,Nat.reduceSub,Nat.reduceMul,Nat.reduceLT,Nat.reduceLeDiff,reduceCtorEq,a_eq,a_neq,a_cast0,a_pred,a_app1,a_zero,Int.reduceToNat, hgl]
def symM (m : MD) : Bool := m.ok && decide (m = trM m)
theorem trM_small {m : MD} (hs : smallL m.cells) : smallL (trM m).cells := by
  unfold trM
  split
  · rename_i ho
    obtain ⟨r, c, hg⟩ := MD.ok_good ho
    have e1 : m.rows.toNat = r := by rw [hg.er]; rfl
    have e2 : m.cols.toNat = c := by rw [hg.ec]; rfl
    refine ⟨?_, fun x hx => ?_⟩
    · show (gridR _ _ _).length ≤ _
      rw [gridR_length, e1, e2]
      have := rc_le hg.c24 hg.r24; omega
    · rw [e1, e2] at hx
      obtain ⟨k, hk, hx⟩ := List.mem_flatMap.1 hx
      obtain ⟨i, hi, rfl⟩ := List.mem_map.1 hx
      exact hs.getD (by rw [hg.len]; exact ix_lt (List.mem_range.1 hi) (List.mem_range.1 hk))
  · exact ⟨by simp [MD.zero], by simp [MD.zero]⟩
theorem leL_us {l : List RD} : LeL [] .s (rsC .u l) (rsC .s l) := leL_rsC fun m => Le.slU
theorem rn_rslR {H : List Ob} {js : List (Option Nat)} {bk : Bool} {id : Nat} {ty : TypeId} {l : List RD} (h : H[id]? = some ⟨.frz, ty, rsC .s l⟩) : Rn H js bk (.rsl id 3 0 l.length) (sR .s l) [] := by
  have q := Rn.rslz js bk id 3 0 l.length ⟨.frz, ty, rsC .s l⟩ h rfl (by simp [rsC_length]) (by
    intro c hc; exact cl_rsC c (List.mem_of_mem_drop (List.mem_of_mem_take hc)))
  simp only [Nat.zero_mul, List.drop_zero] at q
  rw [List.take_of_length_le (by simp [rsC_length])] at q
  exact q
theorem mt_share (M : MD) : RtG 0 (mtH M) (mtO M) (mtV .s M) [] := RtG.share 0 (cs' := rsC .s M.cells) rfl lW leL_us lW (RtG.nothing [] trivial (by decide) lW (.agg _ _ _ _ _ (.cons _ _ _ _ _ _ [] [] (.same _ _ _ trivial (fun _ => trivial)) (.cons _ _ _ _ _ _ [] [] (.same _ _ _ trivial (fun _ => trivial)) (.cons _ _ _ _ _ _ [] [] (rn_rslR rfl) (.nil _ _))))))
theorem impl_Transpose_c (m : MD) (f : Fl) (hf : f ≠ .u) (hs : smallL m.cells) : PC PP F_impl_Transpose [mtV f m] (mtV .s (trM m)) [] := ((impl_Transpose_g m f hf hs).conv (mt_share _)).pc
theorem impl_IsSymmetric_c (m : MD) (f : Fl) (hf : f ≠ .u) (hs : smallL m.cells) : PC PP F_impl_IsSymmetric [mtV f m] (Bo (symM m)) [] := by
  unfold symM
  refine tx W_impl_IsSymmetric ke_impl_IsSymmetric [] (by kernel_rfl) ?_
  simp -dsimp(disch:=first|exact om|fail)only[go_sem,↓reduceIte,Nat.reduceEqDiff,Nat.reduceAdd,Nat.reduceSub,Nat.reduceMul,Nat.reduceLT,Nat.reduceLeDiff,reduceCtorEq,a_eq,a_neq,a_cast0,a_pred,a_app1,a_zero,Int.reduceToNat]
  refine callP (impl_MatrixOk_c m f hf hs) lL ?_
  cases ho : m.ok
  · rw [Bool.false_and]
    simp -dsimp(disch:=first|exact om|fail)only[go_sem,↓reduceIte,Nat.reduceEqDiff,Nat.reduceAdd,Nat.reduceSub,Nat.reduceMul,Nat.reduceLT,Nat.reduceLeDiff,reduceCtorEq,a_eq,a_neq,a_cast0,a_pred,a_app1,a_zero,Int.reduceToNat]
  · rw [Bool.true_and]
    simp -dsimp(disch:=first|exact om|fail)only[go_sem,↓reduceIte,Nat.reduceEqDiff,Nat.reduceAdd,Nat.reduceSub,Nat.reduceMul,Nat.reduceLT,Nat.reduceLeDiff,reduceCtorEq,a_eq,a_neq,a_cast0,a_pred,a_app1,a_zero,Int.reduceToNat]
    refine callP (impl_Transpose_c m f hf hs) lL ?_
    simp -dsimp(disch:=first|exact om|fail)only[go_sem,↓reduceIte,Nat.reduceEqDiff,Nat.reduceAdd,Nat.reduceSub,Nat.reduceMul,Nat.reduceLT,Nat.reduceLeDiff,reduceCtorEq,a_eq,a_neq,a_cast0,a_pred,a_app1,a_zero,Int.reduceToNat]
    refine callP (impl_EqualMatrices_c f .s hf fls m (trM m) hs.fit (trM_small hs).fit) lL ?_
    simp -dsimp(disch:=first|exact om|fail)only[go_sem,↓reduceIte,Nat.reduceEqDiff,Nat.reduceAdd,Nat.reduceSub,Nat.reduceMul,Nat.reduceLT,Nat.reduceLeDiff,reduceCtorEq,a_eq,a_neq,a_cast0,a_pred,a_app1,a_zero,Int.reduceToNat]
end Go.Proofs.YtikmepdhpffdoaaGreat

namespace Go.Proofs.YtikmepdhpffdoaaGreat
open Go Go.RowKit
set_option maxRecDepth 100000
set_option maxHeartbeats 4000000
set_option linter.unusedVariables false
set_option linter.unusedSimpArgs false
def doneM (r c : Int) (l : List FQ) : MD × Bool := if allG l = true then (⟨r, c, l.map qd⟩, true) else (MD.zero, false)
theorem cloQ_done {n c : Nat} {M : Nat → Nat → FQ} : cloQ n c M = doneM n c (gridL n c M) := rfl
abbrev moS (p : MD × Bool) : V := .tup [mtV .s p.1, Bo p.2]
abbrev noM : MD × Bool := (MD.zero, false)
theorem gridL_getD {n c : Nat} {M : Nat → Nat → FQ} {i k : Nat} (hi : i < n) (hk : k < c) : (gridL n c M).getD (i * c + k) FQ.bad = M i k := by
  induction n with
  | zero => omega
  | succ n ih =>
    rw [gridL_succ, List.getD_eq_getElem?_getD]
    rcases Nat.lt_or_eq_of_le (Nat.le_of_lt_succ hi) with h | rfl
    · rw [List.getElem?_append_left (by rw [gridL_length]; exact ix_lt h hk), ← List.getD_eq_getElem?_getD]
      exact ih h
    · rw [List.getElem?_append_right (by rw [gridL_length]; omega), gridL_length, Nat.add_sub_cancel_left, ← List.getD_eq_getElem?_getD]
      exact rowQ_get hk
theorem gridL_ext {n c : Nat} {M : Nat → Nat → FQ} {l : List FQ} (hl : l.length = n * c) (h : ∀ i k, i < n → k < c → l.getD (i * c + k) FQ.bad = M i k) : l = gridL n c M := by
  refine List.ext_getElem (by rw [hl, gridL_length]) fun p h1 h2 => ?_
  have hc : 0 < c := by
    rcases Nat.eq_zero_or_pos c with rfl | h
    · rw [hl, Nat.mul_zero] at h1; omega
    · exact h
  have hp : p / c < n := Nat.div_lt_of_lt_mul (by rw [Nat.mul_comm, ← hl]; exact h1)
  have e : p = p / c * c + p % c := by rw [Nat.mul_comm]; exact (Nat.div_add_mod p c).symm
  have q1 := h (p / c) (p % c) hp (Nat.mod_lt _ hc)
  have q2 := gridL_getD (M := M) hp (Nat.mod_lt p hc)
  rw [← e] at q1 q2
  rw [List.getD_eq_getElem?_getD, List.getElem?_eq_getElem h1, Option.getD_some] at q1
  rw [List.getD_eq_getElem?_getD, List.getElem?_eq_getElem h2, Option.getD_some] at q2
  rw [q1, q2]
end Go.Proofs.YtikmepdhpffdoaaGreat
