/- part of the proof -/
import Derived.Test.YtpmjjdhnacmphaaTKa
namespace Go.Proofs.Ytpmjjdhnacmphaa
open Go Go.RowKit
set_option maxRecDepth 100000
set_option maxHeartbeats 4000000
set_option linter.unusedVariables false
set_option linter.unusedSimpArgs false
def gridL (n c : Nat) (M : Nat → Nat → FQ) : List FQ := (List.range n).flatMap fun i => rowQ c (M i)
theorem gridL_succ {n c : Nat} {M : Nat → Nat → FQ} : gridL (n + 1) c M = gridL n c M ++ rowQ c (M n) := by simp [gridL, List.range_succ]
@[go_sem] theorem gridL_length {n c : Nat} {M : Nat → Nat → FQ} : (gridL n c M).length = n * c := by
  induction n with
  | zero => simp [gridL]
  | succ n ih => rw [gridL_succ, List.length_append, ih, rowQ_length, Nat.succ_mul]
def gridR (n c : Nat) (N : Nat → Nat → RD) : List RD := (List.range n).flatMap fun i => (List.range c).map (N i)
def trM (m : MD) : MD := if m.ok = true then ⟨m.cols, m.rows, gridR m.cols.toNat m.rows.toNat fun k i => m.cells.getD (i * m.cols.toNat + k) RD.zero⟩ else MD.zero
theorem trM_ok {m : MD} {r c : Nat} (ho : m.ok = true) (hg : m.Good r c) : trM m = ⟨c, r, gridR c r fun k i => m.cells.getD (i * c + k) RD.zero⟩ := by
  unfold trM
  rw [if_pos ho, hg.er, hg.ec]; rfl
theorem gridL_qd {n c : Nat} {M : Nat → Nat → FQ} {N : Nat → Nat → RD} (h : ∀ i k, i < n → k < c → qd (M i k) = N i k) : (gridL n c M).map qd = gridR n c N := by
  unfold gridL gridR
  rw [List.map_flatMap, List.flatMap_def, List.flatMap_def]
  refine congrArg List.flatten (List.map_congr_left fun i hi => ?_)
  unfold rowQ
  rw [List.map_map]
  exact List.map_congr_left fun k hk => h i k (List.mem_range.1 hi) (List.mem_range.1 hk)
theorem allG_mem {l : List FQ} : allG l = true ↔ ∀ x ∈ l, x.good = true := by unfold allG; rw [List.all_eq_true]
theorem gridL_all {n c : Nat} {M : Nat → Nat → FQ} (h : ∀ i k, i < n → k < c → (M i k).good = true) : allG (gridL n c M) = true := by
  rw [allG_mem]
  intro x hx
  obtain ⟨i, hi, hx⟩ := List.mem_flatMap.1 hx
  obtain ⟨k, hk, rfl⟩ := List.mem_map.1 hx
  exact h i k (List.mem_range.1 hi) (List.mem_range.1 hk)
theorem MD.at_ok {m : MD} {r c i k : Nat} (hg : m.Good r c) (hi : i < r) (hk : k < c) : (m.at c i k).good = true ∧ qd (m.at c i k) = m.cells.getD (i * c + k) RD.zero := by
  have := getD_all hg.all (d := RD.zero) (i := i * c + k) (by rw [hg.len]; exact ix_lt hi hk)
  unfold MD.at
  exact ⟨by rw [rdq_good]; exact this, qd_rdq this⟩
end Go.Proofs.Ytpmjjdhnacmphaa
namespace Go.Proofs.Ytpmjjdhnacmphaa
open Go Go.RowKit
set_option maxRecDepth 100000
set_option maxHeartbeats 4000000
set_option linter.unusedVariables false
set_option linter.unusedSimpArgs false
theorem gridR_succ {n c : Nat} {N : Nat → Nat → RD} : gridR (n + 1) c N = gridR n c N ++ (List.range c).map (N n) := by simp [gridR, List.range_succ]
theorem gridR_length {n c : Nat} {N : Nat → Nat → RD} : (gridR n c N).length = n * c := by
  induction n with
  | zero => simp [gridR]
  | succ n ih => rw [gridR_succ, List.length_append, ih, List.length_map, List.length_range, Nat.succ_mul]
def partR (n c k : Nat) (N : Nat → Nat → RD) : List RD := gridR n c N ++ (List.range k).map (N n)
theorem partR_zero {n c : Nat} {N : Nat → Nat → RD} : partR n c 0 N = gridR n c N := by simp [partR]
theorem partR_full {n c : Nat} {N : Nat → Nat → RD} : partR n c c N = gridR (n + 1) c N := by rw [gridR_succ]; rfl
theorem partR_length {n c k : Nat} {N : Nat → Nat → RD} : (partR n c k N).length = n * c + k := by simp [partR, gridR_length]
theorem partR_succ {f : Fl} {n c k : Nat} {N : Nat → Nat → RD} : rsC f (partR n c k N) ++ [Bo (N n k).neg, sI f (N n k).mag, sI f (N n k).den] = rsC f (partR n c (k + 1) N) := by
  rw [rs_app]; congr 1; simp [partR, List.range_succ]
theorem l06Transpose_c (m : MD) (f : Fl) (hf : f ≠ .u) (r c : Nat) (hg : m.Good r c) (hs : smallL m.cells) :
    PC PP F_spec_l06Transpose [mtV f m] (mtV .s ⟨c, r, gridR c r fun k i => m.cells.getD (i * c + k) RD.zero⟩) [] := by
  have hr := hg.er
  have hc := hg.ec
  have h24 := hg.r24
  have h24' := hg.c24
  have hlen := hg.len
  generalize hNe : (fun k i => m.cells.getD (i * c + k) RD.zero) = N
  have hN : ∀ k i, k < c → i < r → (N k i).small ∧ PB PP F_spec_l06At [V.agg [I r, I c, sR f m.cells], I i, I k] (rV .b (N k i)) [] := by
    intro k i hk hi
    have q := l06At_b m f hf r c i k hg hs hi hk
    simp only [mtV, mtC, hr, hc] at q
    rw [← hNe]
    exact ⟨hs.getD (by rw [hlen]; exact ix_lt hi hk), q⟩
  refine txe W_spec_l06Transpose ke_spec_l06Transpose [(9, [3])] [] [] (by kernel_rfl) ?_
  simp -dsimp(disch:=first|exact om|fail)only[go_sem,↓reduceIte,Nat.reduceEqDiff,Nat.reduceAdd,Nat.reduceSub,Nat.reduceMul,Nat.reduceLT,Nat.reduceLeDiff,reduceCtorEq,a_eq,a_neq,a_cast0,a_pred,a_app1,a_zero,Int.reduceToNat, hr, hc]
  refine loopJ (fun k : Nat => k ≤ c) (fun k => ⟨[(1, .ref 0 0), (2, .ref 1 0), (3, .ref 2 0), (4, I k)], [⟨.own, T_impl_Matrix, [I r, I c, sR f m.cells]⟩, ⟨.own, T_impl_Matrix, [I 0, I 0, .emp]⟩, ⟨.own, T_impl_Matrix, [I c, I r, .rsl 3 3 0 (k * r)]⟩, ⟨.own, T_impl_Rat, rsC .s (gridR k r N)⟩]⟩) (fun k => c - k) 0 (by omega) ?_ ?_
  · refine StI.ren [some 0, some 1, some 2, none] [[], [], [], []] lE (by decide) ?_ lW
    simp -dsimp(disch:=first|exact om|fail)only[go_sem,↓reduceIte,Nat.reduceEqDiff,Nat.reduceAdd,Nat.reduceSub,Nat.reduceMul,Nat.reduceLT,Nat.reduceLeDiff,reduceCtorEq,a_eq,a_neq,a_cast0,a_pred,a_app1,a_zero,Int.reduceToNat, Nat.zero_mul, show gridR 0 r N = [] from rfl]
  intro k hk
  by_cases h : k < c
  · have hkr : (k + 1) * r ≤ c * r := Nat.mul_le_mul_right r h
    have hcr := rc_le h24' h24
    rw [Nat.succ_mul] at hkr
    simp -dsimp(disch:=first|exact om|fail)only[go_sem,↓reduceIte,Nat.reduceEqDiff,Nat.reduceAdd,Nat.reduceSub,Nat.reduceMul,Nat.reduceLT,Nat.reduceLeDiff,reduceCtorEq,a_eq,a_neq,a_cast0,a_pred,a_app1,a_zero,Int.reduceToNat]
    refine loopJ (fun i : Nat => i ≤ r) (fun i => ⟨[(1, .ref 0 0), (2, .ref 1 0), (3, .ref 2 0), (4, I k), (5, I i)], [⟨.own, T_impl_Matrix, [I r, I c, sR f m.cells]⟩, ⟨.own, T_impl_Matrix, [I 0, I 0, .emp]⟩, ⟨.own, T_impl_Matrix, [I c, I r, .rsl 3 3 0 (k * r + i)]⟩, ⟨.own, T_impl_Rat, rsC .s (partR k r i N)⟩]⟩) (fun i => r - i) 0 (by omega) ?_ ?_
    · refine StI.ren [some 0, some 1, some 2, some 3] [[], [], [], []] lE (by decide) ?_ lW
      rw [partR_zero]
      simp -dsimp(disch:=first|exact om|fail)only[go_sem,↓reduceIte,Nat.reduceEqDiff,Nat.reduceAdd,Nat.reduceSub,Nat.reduceMul,Nat.reduceLT,Nat.reduceLeDiff,reduceCtorEq,a_eq,a_neq,a_cast0,a_pred,a_app1,a_zero,Int.reduceToNat, Nat.add_zero]
    intro i hi
    by_cases h2 : i < r
    · obtain ⟨hsm, q⟩ := hN k i h h2
      have hpl := partR_length (n := k) (c := r) (k := i) (N := N)
      simp -dsimp(disch:=first|exact om|fail)only[go_sem,↓reduceIte,Nat.reduceEqDiff,Nat.reduceAdd,Nat.reduceSub,Nat.reduceMul,Nat.reduceLT,Nat.reduceLeDiff,reduceCtorEq,a_eq,a_neq,a_cast0,a_pred,a_app1,a_zero,Int.reduceToNat]
      refine callB' q lB lF ?_
      simp -dsimp(disch:=first|exact om|fail)only[go_sem,↓reduceIte,Nat.reduceEqDiff,Nat.reduceAdd,Nat.reduceSub,Nat.reduceMul,Nat.reduceLT,Nat.reduceLeDiff,reduceCtorEq,a_eq,a_neq,a_cast0,a_pred,a_app1,a_zero,Int.reduceToNat]
      refine callP (l04Copy_c .b flb (N k i) ⟨hsm.1, hsm.2⟩) lL ?_
      simp -dsimp(disch:=first|exact om|fail)only[go_sem,↓reduceIte,Nat.reduceEqDiff,Nat.reduceAdd,Nat.reduceSub,Nat.reduceMul,Nat.reduceLT,Nat.reduceLeDiff,reduceCtorEq,a_eq,a_neq,a_cast0,a_pred,a_app1,a_zero,Int.reduceToNat, hpl]
      rw [partR_succ]
      exact ⟨i + 1, by omega, by omega, StI.ren [some 0, some 1, some 2, some 4] [[], [], [], []] lE (by decide) (by simp -dsimp(disch:=first|exact om|fail)only[go_sem,↓reduceIte,Nat.reduceEqDiff,Nat.reduceAdd,Nat.reduceSub,Nat.reduceMul,Nat.reduceLT,Nat.reduceLeDiff,reduceCtorEq,a_eq,a_neq,a_cast0,a_pred,a_app1,a_zero,Int.reduceToNat]; omega) lW⟩
    · obtain rfl : i = r := by omega
      simp -dsimp(disch:=first|exact om|fail)only[go_sem,↓reduceIte,Nat.reduceEqDiff,Nat.reduceAdd,Nat.reduceSub,Nat.reduceMul,Nat.reduceLT,Nat.reduceLeDiff,reduceCtorEq,a_eq,a_neq,a_cast0,a_pred,a_app1,a_zero,Int.reduceToNat]
      refine ⟨k + 1, by omega, by omega, ?_⟩
      rw [partR_full, Nat.succ_mul]
      refine StI.ren [some 0, some 1, some 2, some 3] [[], [], [], []] lE (by decide) ?_ lW
      simp -dsimp(disch:=first|exact om|fail)only[go_sem,↓reduceIte,Nat.reduceEqDiff,Nat.reduceAdd,Nat.reduceSub,Nat.reduceMul,Nat.reduceLT,Nat.reduceLeDiff,reduceCtorEq,a_eq,a_neq,a_cast0,a_pred,a_app1,a_zero,Int.reduceToNat]
  · obtain rfl : k = c := by omega
    have hgl := gridR_length (n := k) (c := r) (N := N)
    simp -dsimp(disch:=first|exact om|fail)only[go_sem,↓reduceIte,Nat.reduceEqDiff,Nat.reduceAdd,Nat.reduceSub,Nat.reduceMul,Nat.reduceLT,Nat.reduceLeDiff,reduceCtorEq,a_eq,a_neq,a_cast0,a_pred,a_app1,a_zero,Int.reduceToNat, hgl]
theorem leL_us {l : List RD} : LeL [] .s (rsC .u l) (rsC .s l) := leL_rsC fun m => Le.slU
end Go.Proofs.Ytpmjjdhnacmphaa
