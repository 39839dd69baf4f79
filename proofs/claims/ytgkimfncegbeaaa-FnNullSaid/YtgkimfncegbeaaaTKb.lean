/- part of the proof -/
import Derived.Test.YtgkimfncegbeaaaTXb
namespace Go.Proofs.Ytgkimfncegbeaaa
open Go Go.RowKit
set_option maxRecDepth 100000
set_option maxHeartbeats 4000000
set_option linter.unusedVariables false
set_option linter.unusedSimpArgs false
def rowQ (c : Nat) (g : Nat → FQ) : List FQ := (List.range c).map g
@[go_sem] theorem rowQ_length {c : Nat} {g : Nat → FQ} : (rowQ c g).length = c := by simp [rowQ]
theorem rowQ_get {c : Nat} {g : Nat → FQ} {k : Nat} (h : k < c) : (rowQ c g).getD k FQ.bad = g k := by simp [rowQ, h]
def gC (f φ : Fl) (n c : Nat) (M : Nat → Nat → FQ) : List V := (List.range n).map fun i => .sl f 1 c (qs φ (rowQ c (M i)))
@[go_sem] theorem gC_length {f φ : Fl} {n c : Nat} {M : Nat → Nat → FQ} : (gC f φ n c M).length = n := by simp [gC]
theorem gC_succ {f φ : Fl} {n c : Nat} {M : Nat → Nat → FQ} : gC f φ (n + 1) c M = gC f φ n c M ++ [.sl f 1 c (qs φ (rowQ c (M n)))] := by simp [gC, List.range_succ]
theorem gC_mem {f φ : Fl} {n c : Nat} {M : Nat → Nat → FQ} {v : V} (h : v ∈ gC f φ n c M) : ∃ i, v = .sl f 1 c (qs φ (rowQ c (M i))) := by
  obtain ⟨i, _, rfl⟩ := List.mem_map.1 h; exact ⟨i, rfl⟩
theorem gC_flat {f φ : Fl} {n c : Nat} {M : Nat → Nat → FQ} : ∀ v ∈ gC f φ n c M, v.flat := fun v h => by obtain ⟨i, rfl⟩ := gC_mem h; trivial
abbrev gV (f : Fl) (n c : Nat) (M : Nat → Nat → FQ) : V := .agg [I n, I c, .sl f 1 n (gC f f n c M)]
theorem emps_flat {n : Nat} : (List.replicate n [V.emp]).flatten = List.replicate n V.emp := by
  induction n with
  | zero => rfl
  | succ n ih => rw [List.replicate_succ, List.flatten_cons, ih, List.replicate_succ]; rfl
theorem rep_flat {n : Nat} : ∀ v ∈ List.replicate n V.emp, v.flat := fun v h => by obtain ⟨_, rfl⟩ := List.mem_replicate.1 h; trivial
theorem mid_app {α : Type} {X Y : List α} {v : α} : (X ++ [v]) ++ Y = X ++ v :: Y := by simp
theorem fl1_flat {v : V} (h : v.fl1) : v.flat := by unfold V.fl1 at h; unfold V.flat; split at h <;> trivial
theorem rnL_fl1 {H : List Ob} {js : List (Option Nat)} {l : List V} (h : ∀ v ∈ l, v.fl1) : RnL H js true l l [] = True := eq_true (RnL.same (fun v hv => fl1_flat (h v hv)) (fun h => by cases h))
theorem rnL_mid {H : List Ob} {js : List (Option Nat)} {X Y : List V} (hX : ∀ v ∈ X, v.flat) (hY : ∀ v ∈ Y, v.flat) {id i sz o n : Nat} (h : js[i]? = some (some id)) : RnL H js true (X ++ .rsl id sz o n :: Y) (X ++ .rsl i sz o n :: Y) [] :=
  RnL.app (k1 := []) (RnL.same hX (fun h => by cases h)) (.cons _ _ _ _ _ _ [] [] (.rsl _ _ _ _ _ _ _ h) (RnL.same hY (fun h => by cases h)))
theorem fl1_fl2 {v : V} (h : v.fl1) : v.fl2 := by unfold V.fl1 at h; unfold V.fl2; split at h <;> trivial
theorem leL_app {H : List Ob} {f : Fl} : ∀ {a a' b b' : List V}, LeL H f a a' → LeL H f b b' → LeL H f (a ++ b) (a' ++ b')
  | _, _, _, _, .nil, h => h
  | _, _, _, _, .cons _ _ _ _ h1 h2, h => .cons _ _ _ _ h1 (leL_app h2 h)
theorem leL_gC {H : List Ob} {n c : Nat} {M : Nat → Nat → FQ} : LeL H .b (gC .b .b n c M) (gC .b .b n c M) := by
  induction n with
  | zero => exact .nil
  | succ n ih => rw [gC_succ]; exact leL_app ih (.cons _ _ _ _ (.sl _ _ _ _ _ _ ⟨rfl, rfl⟩ (leL_qsb flb)) .nil)
theorem newGrid_b (n c : Nat) (hn : n ≤ 64) (hc : c ≤ 64) (g : FuncId) (fs cs : List V) (hfl : (∀ v ∈ fs, v.fl1) ∧ ∀ v ∈ cs, v.fl1) (M : Nat → Nat → FQ) (φ : Fl) (hφ : φ ≠ .u)
    (hat : ∀ i k : Nat, i < n → k < c → PB PP g (fs ++ [I i, I k] ++ cs) (pQ φ (M i k)) []) :
    PB PP F_impl_newGrid [I n, I c, .fn (.func g) fs cs] (gV .b n c M) [] := by
  have hR1 := fun H js => rnL_fl1 (H := H) (js := js) hfl.1
  have hR2 := fun H js => rnL_fl1 (H := H) (js := js) hfl.2
  have hRp := fun H js n => eq_true (RnL.same (H := H) (js := js) (bk := true) (cs := List.replicate n V.emp) rep_flat (fun h => by cases h))
  refine txb W_impl_newGrid ke_impl_newGrid [] [] [] (by kernel_rfl) ?_
  simp -dsimp(disch:=first|exact om|fail)only[go_sem,↓reduceIte,Nat.reduceEqDiff,Nat.reduceAdd,Nat.reduceSub,Nat.reduceMul,Nat.reduceLT,Nat.reduceLeDiff,reduceCtorEq,a_eq,a_neq,a_cast0,a_pred,a_app1,a_zero,Int.reduceToNat]
  rw [emps_flat]
  refine loopJ (fun i : Nat => i ≤ n) (fun i => ⟨[(0, I n), (1, I c), (2, .fn (.func g) fs cs), (6, .ref 0 0), (7, .ref 2 0), (17, I n), (18, I i)], [⟨.own, T_impl_grid, [I 0, I 0, .emp]⟩, ⟨.own, T_sl_p_impl_ratio, gC .b .b i c M ++ List.replicate (n - i) .emp⟩, ⟨.own, T_impl_grid, [I n, I c, .rsl 1 1 0 n]⟩]⟩) (fun i => n - i) 0 (by omega) ?_ ?_
  · refine StI.ren [some 0, some 1, some 2] [[], [], []] lE (by decide) (by simp -dsimp(disch:=first|exact om|fail)only[go_sem,↓reduceIte,Nat.reduceEqDiff,Nat.reduceAdd,Nat.reduceSub,Nat.reduceMul,Nat.reduceLT,Nat.reduceLeDiff,reduceCtorEq,a_eq,a_neq,a_cast0,a_pred,a_app1,a_zero,Int.reduceToNat, show gC .b .b 0 c M = [] from rfl, List.nil_append, hRp]) (by simp -dsimp(disch:=first|exact om|fail)only[go_sem,↓reduceIte,Nat.reduceEqDiff,Nat.reduceAdd,Nat.reduceSub,Nat.reduceMul,Nat.reduceLT,Nat.reduceLeDiff,reduceCtorEq,a_eq,a_neq,a_cast0,a_pred,a_app1,a_zero,Int.reduceToNat, hR1, hR2])
  intro i hi
  by_cases h : i < n
  · obtain ⟨j, rfl⟩ : ∃ j, n = i + 1 + j := ⟨n - i - 1, by omega⟩
    have e1 : i + 1 + j - i = j + 1 := by omega
    rw [e1, List.replicate_succ]
    have hX : (gC .b .b i c M).length = i := gC_length
    have hfX := gC_flat (f := .b) (φ := .b) (n := i) (c := c) (M := M)
    generalize hXX : gC .b .b i c M = X at *
    simp -dsimp(disch:=first|exact om|fail)only[go_sem,↓reduceIte,Nat.reduceEqDiff,Nat.reduceAdd,Nat.reduceSub,Nat.reduceMul,Nat.reduceLT,Nat.reduceLeDiff,reduceCtorEq,a_eq,a_neq,a_cast0,a_pred,a_app1,a_zero,Int.reduceToNat, preT, preD, preD1, mid_app]
    rw [qs_nil]
    refine loopJ (fun k : Nat => k ≤ c) (fun k => ⟨[(0, I (i + 1 + j : Nat)), (1, I c), (2, .fn (.func g) fs cs), (6, .ref 0 0), (7, .ref 2 0), (8, I i), (17, I (i + 1 + j : Nat)), (18, I i), (32, I c), (33, I k)], [⟨.own, T_impl_grid, [I 0, I 0, .emp]⟩, ⟨.own, T_sl_p_impl_ratio, X ++ .rsl 3 1 0 c :: List.replicate j .emp⟩, ⟨.own, T_impl_grid, [I (i + 1 + j : Nat), I c, .rsl 1 1 0 (i + 1 + j)]⟩, ⟨.own, T_p_impl_ratio, qs φ (fillQ (rowQ c (M i)) k)⟩]⟩) (fun k => c - k) 0 (by omega) ?_ ?_
    · refine StI.ren [some 0, some 1, some 2, some 3] [[], [], [], []] lE (by decide) (by simp -dsimp(disch:=first|exact om|fail)only[go_sem,↓reduceIte,Nat.reduceEqDiff,Nat.reduceAdd,Nat.reduceSub,Nat.reduceMul,Nat.reduceLT,Nat.reduceLeDiff,reduceCtorEq,a_eq,a_neq,a_cast0,a_pred,a_app1,a_zero,Int.reduceToNat]; exact ⟨rnL_mid hfX rep_flat rfl, by rw [fillQ_zero, rowQ_length]; exact of_eq_true rnL_qs_b⟩) (by simp -dsimp(disch:=first|exact om|fail)only[go_sem,↓reduceIte,Nat.reduceEqDiff,Nat.reduceAdd,Nat.reduceSub,Nat.reduceMul,Nat.reduceLT,Nat.reduceLeDiff,reduceCtorEq,a_eq,a_neq,a_cast0,a_pred,a_app1,a_zero,Int.reduceToNat, hR1, hR2])
    intro k hk
    by_cases h2 : k < c
    · have e2 : (fillQ (rowQ c (M i)) k).length = c := by simp [fillQ, rowQ]; omega
      simp -dsimp(disch:=first|exact om|fail)only[go_sem,↓reduceIte,Nat.reduceEqDiff,Nat.reduceAdd,Nat.reduceSub,Nat.reduceMul,Nat.reduceLT,Nat.reduceLeDiff,reduceCtorEq,a_eq,a_neq,a_cast0,a_pred,a_app1,a_zero,Int.reduceToNat, preT, preD, preD1]
      refine callBc (hat i k (by omega) h2) (by
        intro v hv
        simp only [List.mem_append, List.mem_cons, List.not_mem_nil, or_false] at hv
        rcases hv with (hv | rfl | rfl) | hv
        · exact fl1_fl2 (hfl.1 v hv)
        · trivial
        · trivial
        · exact fl1_fl2 (hfl.2 v hv)) (by simp) ?_
      simp -dsimp(disch:=first|exact om|fail)only[go_sem,↓reduceIte,Nat.reduceEqDiff,Nat.reduceAdd,Nat.reduceSub,Nat.reduceMul,Nat.reduceLT,Nat.reduceLeDiff,reduceCtorEq,a_eq,a_neq,a_cast0,a_pred,a_app1,a_zero,Int.reduceToNat, preT, preD, preD1, List.map_nil]
      exact ⟨k + 1, by omega, by omega, StI.ren [some 0, some 1, some 2, some 3] [[], [], [], []] lE (by decide) (by simp -dsimp(disch:=first|exact om|fail)only[go_sem,↓reduceIte,Nat.reduceEqDiff,Nat.reduceAdd,Nat.reduceSub,Nat.reduceMul,Nat.reduceLT,Nat.reduceLeDiff,reduceCtorEq,a_eq,a_neq,a_cast0,a_pred,a_app1,a_zero,Int.reduceToNat]; exact ⟨rnL_mid hfX rep_flat rfl, by rw [fillQ_set (by rw [rowQ_length]; exact h2) (rowQ_get h2).symm]; exact of_eq_true rnL_qs_b⟩) (by simp -dsimp(disch:=first|exact om|fail)only[go_sem,↓reduceIte,Nat.reduceEqDiff,Nat.reduceAdd,Nat.reduceSub,Nat.reduceMul,Nat.reduceLT,Nat.reduceLeDiff,reduceCtorEq,a_eq,a_neq,a_cast0,a_pred,a_app1,a_zero,Int.reduceToNat, hR1, hR2])⟩
    · obtain rfl : k = c := by omega
      have e3 := fillQ_full (l := rowQ k (M i))
      rw [rowQ_length] at e3
      rw [e3]
      simp -dsimp(disch:=first|exact om|fail)only[go_sem,↓reduceIte,Nat.reduceEqDiff,Nat.reduceAdd,Nat.reduceSub,Nat.reduceMul,Nat.reduceLT,Nat.reduceLeDiff,reduceCtorEq,a_eq,a_neq,a_cast0,a_pred,a_app1,a_zero,Int.reduceToNat, preT, preD, preD1]
      refine ⟨i + 1, by omega, by omega, (StI.shareb 3 (cs' := qs .b (rowQ k (M i))) rfl lW (leL_qsbb hφ) lW).trans (StI.ren [some 0, some 1, some 2] [[], [], []] lE (by decide) ?_ (by simp -dsimp(disch:=first|exact om|fail)only[go_sem,↓reduceIte,Nat.reduceEqDiff,Nat.reduceAdd,Nat.reduceSub,Nat.reduceMul,Nat.reduceLT,Nat.reduceLeDiff,reduceCtorEq,a_eq,a_neq,a_cast0,a_pred,a_app1,a_zero,Int.reduceToNat, hR1, hR2]))⟩
      simp -dsimp(disch:=first|exact om|fail)only[go_sem,↓reduceIte,Nat.reduceEqDiff,Nat.reduceAdd,Nat.reduceSub,Nat.reduceMul,Nat.reduceLT,Nat.reduceLeDiff,reduceCtorEq,a_eq,a_neq,a_cast0,a_pred,a_app1,a_zero,Int.reduceToNat]
      rw [gC_succ, hXX, show i + 1 + j - (i + 1) = j by omega, mid_app]
      refine RnL.app (k1 := []) (RnL.same hfX (fun h => by cases h)) (.cons _ _ _ _ _ _ [] [] ?_ (RnL.same rep_flat (fun h => by cases h)))
      have q := Rn.rslb (H := [⟨.own, T_impl_grid, [I 0, I 0, V.emp]⟩, ⟨.own, T_sl_p_impl_ratio, X ++ V.rsl 3 1 0 k :: List.replicate j V.emp⟩, ⟨.own, T_impl_grid, [I (i + 1 + j : Nat), I k, V.rsl 1 1 0 (i + 1 + j)]⟩, ⟨.frz, T_p_impl_ratio, qs .b (rowQ k (M i))⟩]) [some 0, some 1, some 2] 3 1 0 k ⟨.frz, T_p_impl_ratio, qs .b (rowQ k (M i))⟩ rfl rfl (by simp [qs_length, rowQ_length]) (by simp only [Nat.zero_mul, List.drop_zero]; exact fun c hc => qs_all (fun _ => of_eq_true flat_pQ) c (List.mem_of_mem_take hc))
      simp only [Nat.zero_mul, List.drop_zero, Nat.mul_one] at q
      rw [List.take_of_length_le (by rw [qs_length, rowQ_length]; exact Nat.le_refl _)] at q
      exact q
  · obtain rfl : i = n := by omega
    rw [Nat.sub_self, List.replicate_zero, List.append_nil]
    simp -dsimp(disch:=first|exact om|fail)only[go_sem,↓reduceIte,Nat.reduceEqDiff,Nat.reduceAdd,Nat.reduceSub,Nat.reduceMul,Nat.reduceLT,Nat.reduceLeDiff,reduceCtorEq,a_eq,a_neq,a_cast0,a_pred,a_app1,a_zero,Int.reduceToNat]
    refine RtB.shareb 1 (cs' := gC .b .b i c M) rfl (by exact gC_flat) (leL_gC) gC_flat ?_
    refine RtB.nothing [] (by decide) trivial ?_
    have q := Rn.rslb (H := [⟨.own, T_impl_grid, [I i, I c, V.rsl 1 1 0 i]⟩, ⟨.frz, T_sl_p_impl_ratio, gC .b .b i c M⟩, ⟨.own, T_impl_grid, [I i, I c, V.rsl 1 1 0 i]⟩]) [] 1 1 0 i ⟨.frz, T_sl_p_impl_ratio, gC .b .b i c M⟩ rfl rfl (by simp [gC_length]) (by simp only [Nat.zero_mul, List.drop_zero]; exact fun c hc => gC_flat c (List.mem_of_mem_take hc))
    simp only [Nat.zero_mul, List.drop_zero, Nat.mul_one] at q
    rw [List.take_of_length_le (by rw [gC_length]; exact Nat.le_refl _)] at q
    exact .agg _ _ _ _ _ (.cons _ _ _ _ _ _ [] [] (.same _ _ _ trivial (fun h => by cases h)) (.cons _ _ _ _ _ _ [] [] (.same _ _ _ trivial (fun h => by cases h)) (.cons _ _ _ _ _ _ [] [] q (.nil _ _))))
end Go.Proofs.Ytgkimfncegbeaaa
namespace Go.Proofs.Ytgkimfncegbeaaa
open Go Go.RowKit
set_option maxRecDepth 100000
set_option maxHeartbeats 4000000
set_option linter.unusedVariables false
set_option linter.unusedSimpArgs false
def MD.zero : MD := ⟨0, 0, []⟩
def MD.ok (m : MD) : Bool := decide (0 ≤ m.rows ∧ m.rows ≤ 24) && decide (0 ≤ m.cols ∧ m.cols ≤ 24) && decide ((m.cells.length : Int) = m.rows * m.cols) && m.cells.all RD.ok
structure MD.Good (m : MD) (r c : Nat) : Prop where
  r24 : r ≤ 24
  c24 : c ≤ 24
  er : m.rows = r
  ec : m.cols = c
  len : m.cells.length = r * c
  all : m.cells.all RD.ok = true
theorem MD.ok_good {m : MD} (h : m.ok = true) : ∃ r c, m.Good r c := by
  unfold MD.ok at h
  simp only [Bool.and_eq_true, decide_eq_true_eq] at h
  obtain ⟨⟨⟨h1, h2⟩, h3⟩, h4⟩ := h
  obtain ⟨r, hr⟩ : ∃ r : Nat, m.rows = r := ⟨m.rows.toNat, by omega⟩
  obtain ⟨c, hc⟩ : ∃ c : Nat, m.cols = c := ⟨m.cols.toNat, by omega⟩
  refine ⟨r, c, by omega, by omega, hr, hc, ?_, h4⟩
  rw [hr, hc, ← Int.natCast_mul] at h3
  omega
noncomputable def MD.at (m : MD) (c i k : Nat) : FQ := rdq (m.cells.getD (i * c + k) RD.zero)
theorem ix_lt {r c i k : Nat} (hi : i < r) (hk : k < c) : i * c + k < r * c := by
  have : (i + 1) * c ≤ r * c := Nat.mul_le_mul_right c hi
  rw [Nat.add_mul, Nat.one_mul] at this; omega
theorem rc_le {r c : Nat} (hr : r ≤ 24) (hc : c ≤ 24) : r * c ≤ 576 := Nat.mul_le_mul hr hc
@[go_sem] theorem le_sQn {H : List Ob} {f g : Fl} {n n' : Nat} {l : List FQ} (hf : f ≠ .u) (hg : g ≠ .u) (hn : OM (n = n')) : Le H .b (.sl f 1 n (qs g l)) (.sl f 1 n' (qs g l)) = True := by
  have hn : n = n' := hn
  subst hn; exact le_sQ hf hg
theorem Le.rsbb {H : List Ob} {g : Fl} (hg : g ≠ .u) {l : List RD} {n : Nat} : Le H .b (.sl g 3 n (rsC g l)) (.sl .b 3 n (rsC .b l)) := by
  have key : ∀ m : List Int, Le H .b (sI g m) (sI .b m) := fun m => of_eq_true (le_slgb hg)
  cases g with
  | s => exact .sl _ _ _ _ _ _ (.inr rfl) (leL_rsC key)
  | b => exact .sl _ _ _ _ _ _ ⟨rfl, rfl⟩ (leL_rsC key)
  | u => exact absurd rfl hg
@[go_sem] theorem le_rsbb {H : List Ob} {g : Fl} (hg : g ≠ .u) {l : List RD} {n : Nat} : Le H .b (.sl g 3 n (rsC g l)) (.sl .b 3 n (rsC .b l)) = True := eq_true (Le.rsbb hg)
theorem open1_b (l : List FQ) (m : MD) (f : Fl) (hf : f ≠ .u) (r c i k : Nat) (hg : m.Good r c) (hl : l.length = r * c) (hi : i < r) (hk : k < c) :
    PB PP F_impl_Matrix_open_1 [I i, I k, .ptr .b [sQ .b .b l], .ptr .b [I r, I c, sR f m.cells]] (pQ .b (l.getD (i * c + k) FQ.bad)) [] := by
  have h1 := ix_lt hi hk
  have h2 := rc_le hg.r24 hg.c24
  have h3 := hg.ec
  have e1 : (i : Int) * (c : Int) = ((i * c : Nat) : Int) := by rw [Int.natCast_mul]
  have e2 : ((i * c : Nat) : Int) + (k : Int) = ((i * c + k : Nat) : Int) := by omega
  generalize hp : i * c + k = p at *
  refine txb W_impl_Matrix_open_1 ke_impl_Matrix_open_1 [] [] [] (by kernel_rfl) ?_
  simp -dsimp(disch:=first|exact om|fail)only[go_sem,↓reduceIte,Nat.reduceEqDiff,Nat.reduceAdd,Nat.reduceSub,Nat.reduceMul,Nat.reduceLT,Nat.reduceLeDiff,reduceCtorEq,a_eq,a_neq,a_cast0,a_pred,a_app1,a_zero,Int.reduceToNat, h3, e1, e2]
  exact RtB.nothing [] (by decide) trivial lW
theorem rn_rslB {H : List Ob} {js : List (Option Nat)} {id : Nat} {ty : TypeId} {cs : List V} {sz n : Nat} (h : H[id]? = some ⟨.frz, ty, cs⟩) (hn : cs.length = n * sz) (hf : ∀ c ∈ cs, c.flat) : Rn H js true (.rsl id sz 0 n) (.sl .b sz n cs) [] := by
  have q := Rn.rslb (H := H) js id sz 0 n ⟨.frz, ty, cs⟩ h rfl (by simp [hn]) (by simp only [Nat.zero_mul, List.drop_zero]; exact fun c hc => hf c (List.mem_of_mem_take hc))
  simp only [Nat.zero_mul, List.drop_zero] at q
  rw [List.take_of_length_le (by omega)] at q
  exact q
theorem loads_b (f : Fl) (hf : f ≠ .u) (l : List RD) (hl : smallL l) (ha : l.all RD.ok = true) : PB PP F_impl_loads [sR f l] (.tup [sQ .b .b (l.map rdq), Bo true]) [] := by
  refine (loads_ok f hf l hl ha).conv (RtB.shareb 0 (cs' := qs .b (l.map rdq)) rfl lW (leL_qsb flb) lW (RtB.nothing [] (by decide) trivial ?_))
  exact .tup _ _ _ _ _ (.cons _ _ _ _ _ _ [] [] (by rw [show (sQ .b .b (l.map rdq)) = .sl .b 1 l.length (qs .b (l.map rdq)) by simp [sQ]]; exact rn_rslB rfl (by simp [qs_length]) (of_eq_true qs_flat)) (.cons _ _ _ _ _ _ [] [] (.same _ _ _ trivial (fun h => by cases h)) (.nil _ _)))
theorem open_ok (m : MD) (f : Fl) (hf : f ≠ .u) (r c : Nat) (hg : m.Good r c) (hs : smallL m.cells) : PB PP F_impl_Matrix_open [mtV f m] (.tup [gV .b r c (m.at c), Bo true]) [] := by
  have h1 := hg.r24
  have h2 := hg.c24
  have h3 := hg.er
  have h4 := hg.ec
  have h5 := hg.len
  have h6 := rc_le h1 h2
  have e1 : (r : Int) * (c : Int) = ((r * c : Nat) : Int) := by rw [Int.natCast_mul]
  refine txb W_impl_Matrix_open ke_impl_Matrix_open [] [6] [] (by kernel_rfl) ?_
  simp -dsimp(disch:=first|exact om|fail)only[go_sem,↓reduceIte,Nat.reduceEqDiff,Nat.reduceAdd,Nat.reduceSub,Nat.reduceMul,Nat.reduceLT,Nat.reduceLeDiff,reduceCtorEq,a_eq,a_neq,a_cast0,a_pred,a_app1,a_zero,Int.reduceToNat, h3, h4, e1]
  refine callB' (loads_b f hf m.cells hs hg.all) lB lF ?_
  simp -dsimp(disch:=first|exact om|fail)only[go_sem,↓reduceIte,Nat.reduceEqDiff,Nat.reduceAdd,Nat.reduceSub,Nat.reduceMul,Nat.reduceLT,Nat.reduceLeDiff,reduceCtorEq,a_eq,a_neq,a_cast0,a_pred,a_app1,a_zero,Int.reduceToNat, h3, h4, e1]
  refine ⟨⟨[(1, .ptr .b [I r, I c, sR .b m.cells]), (2, .ref 0 0), (4, .ptr .b [sQ .b .b (m.cells.map rdq)])], [⟨.own, T_impl_grid, [I 0, I 0, .emp]⟩]⟩, (StI.shareb 0 (cs' := [I r, I c, sR .b m.cells]) rfl lW lW lW).trans ((StI.shareb 2 (cs' := [sQ .b .b (m.cells.map rdq)]) rfl lW lW lW).trans (StI.ren [some 1] [[]] lE (by decide) lW lW)), ?_⟩
  simp -dsimp(disch:=first|exact om|fail)only[go_sem,↓reduceIte,Nat.reduceEqDiff,Nat.reduceAdd,Nat.reduceSub,Nat.reduceMul,Nat.reduceLT,Nat.reduceLeDiff,reduceCtorEq,a_eq,a_neq,a_cast0,a_pred,a_app1,a_zero,Int.reduceToNat]
  refine callB' (newGrid_b r c (by omega) (by omega) _ [] [.ptr .b [sQ .b .b (m.cells.map rdq)], .ptr .b [I r, I c, sR .b m.cells]] (by simp [V.fl1]) (m.at c) .b flb (fun i k hi hk => ?_)) ?_ lF ?_
  · have q := open1_b (m.cells.map rdq) m .b flb r c i k hg (by simp [h5]) hi hk
    rw [getD_map_rdq (by rw [h5]; exact ix_lt hi hk)] at q
    exact q
  · simp [V.fl2, V.fl1]
  simp -dsimp(disch:=first|exact om|fail)only[go_sem,↓reduceIte,Nat.reduceEqDiff,Nat.reduceAdd,Nat.reduceSub,Nat.reduceMul,Nat.reduceLT,Nat.reduceLeDiff,reduceCtorEq,a_eq,a_neq,a_cast0,a_pred,a_app1,a_zero,Int.reduceToNat]
  exact RtB.nothing [] (by decide) trivial lW
theorem open_no (m : MD) (f : Fl) (hf : f ≠ .u) (ho : m.ok = false) (hs : smallL m.cells) : PB PP F_impl_Matrix_open [mtV f m] (.tup [gV .b 0 0 (fun _ _ => FQ.bad), Bo false]) [] := by
  have hl := hs.1
  refine txb W_impl_Matrix_open ke_impl_Matrix_open [] [] [] (by kernel_rfl) ?_
  have fin : ∀ H : List Ob, RtB H (.tup [.agg [I 0, I 0, .emp], Bo false]) (.tup [gV .b 0 0 (fun _ _ => FQ.bad), Bo false]) [] := fun H =>
    RtB.nothing [] (by decide) trivial (.tup _ _ _ _ _ (.cons _ _ _ _ _ _ [] [] (.agg _ _ _ _ _ (.cons _ _ _ _ _ _ [] [] (.same _ _ _ trivial (fun h => by cases h)) (.cons _ _ _ _ _ _ [] [] (.same _ _ _ trivial (fun h => by cases h)) (.cons _ _ _ _ _ _ [] [] (.esl _ _ _ _) (.nil _ _))))) (.cons _ _ _ _ _ _ [] [] (.same _ _ _ trivial (fun h => by cases h)) (.nil _ _))))
  by_cases a1 : m.rows < 0
  · simp -dsimp(disch:=first|exact om|fail)only[go_sem,↓reduceIte,Nat.reduceEqDiff,Nat.reduceAdd,Nat.reduceSub,Nat.reduceMul,Nat.reduceLT,Nat.reduceLeDiff,reduceCtorEq,a_eq,a_neq,a_cast0,a_pred,a_app1,a_zero,Int.reduceToNat]
    exact fin _
  by_cases a2 : 24 < m.rows
  · simp -dsimp(disch:=first|exact om|fail)only[go_sem,↓reduceIte,Nat.reduceEqDiff,Nat.reduceAdd,Nat.reduceSub,Nat.reduceMul,Nat.reduceLT,Nat.reduceLeDiff,reduceCtorEq,a_eq,a_neq,a_cast0,a_pred,a_app1,a_zero,Int.reduceToNat]
    exact fin _
  by_cases a3 : m.cols < 0
  · simp -dsimp(disch:=first|exact om|fail)only[go_sem,↓reduceIte,Nat.reduceEqDiff,Nat.reduceAdd,Nat.reduceSub,Nat.reduceMul,Nat.reduceLT,Nat.reduceLeDiff,reduceCtorEq,a_eq,a_neq,a_cast0,a_pred,a_app1,a_zero,Int.reduceToNat]
    exact fin _
  by_cases a4 : 24 < m.cols
  · simp -dsimp(disch:=first|exact om|fail)only[go_sem,↓reduceIte,Nat.reduceEqDiff,Nat.reduceAdd,Nat.reduceSub,Nat.reduceMul,Nat.reduceLT,Nat.reduceLeDiff,reduceCtorEq,a_eq,a_neq,a_cast0,a_pred,a_app1,a_zero,Int.reduceToNat]
    exact fin _
  have b1 : 0 ≤ m.rows * m.cols := Int.mul_nonneg (by omega) (by omega)
  have b2 : m.rows * m.cols ≤ 24 * 24 := Int.mul_le_mul (by omega) (by omega) (by omega) (by omega)
  have b3 : m.ok = (decide ((m.cells.length : Int) = m.rows * m.cols) && m.cells.all RD.ok) := by
    unfold MD.ok
    rw [decide_eq_true (show 0 ≤ m.rows ∧ m.rows ≤ 24 by omega), decide_eq_true (show 0 ≤ m.cols ∧ m.cols ≤ 24 by omega)]
    simp
  generalize hp : m.rows * m.cols = p at *
  by_cases a5 : (m.cells.length : Int) = p
  · have a6 : m.cells.all RD.ok = false := by rw [b3] at ho; simpa [a5] using ho
    simp -dsimp(disch:=first|exact om|fail)only[go_sem,↓reduceIte,Nat.reduceEqDiff,Nat.reduceAdd,Nat.reduceSub,Nat.reduceMul,Nat.reduceLT,Nat.reduceLeDiff,reduceCtorEq,a_eq,a_neq,a_cast0,a_pred,a_app1,a_zero,Int.reduceToNat, hp]
    refine callB' (loads_no f hf m.cells hs a6) lB lF ?_
    simp -dsimp(disch:=first|exact om|fail)only[go_sem,↓reduceIte,Nat.reduceEqDiff,Nat.reduceAdd,Nat.reduceSub,Nat.reduceMul,Nat.reduceLT,Nat.reduceLeDiff,reduceCtorEq,a_eq,a_neq,a_cast0,a_pred,a_app1,a_zero,Int.reduceToNat]
    exact fin _
  · simp -dsimp(disch:=first|exact om|fail)only[go_sem,↓reduceIte,Nat.reduceEqDiff,Nat.reduceAdd,Nat.reduceSub,Nat.reduceMul,Nat.reduceLT,Nat.reduceLeDiff,reduceCtorEq,a_eq,a_neq,a_cast0,a_pred,a_app1,a_zero,Int.reduceToNat, hp]
    exact fin _
end Go.Proofs.Ytgkimfncegbeaaa
namespace Go.Proofs.Ytgkimfncegbeaaa
open Go Go.RowKit
set_option maxRecDepth 100000
set_option maxHeartbeats 4000000
set_option linter.unusedVariables false
set_option linter.unusedSimpArgs false
@[go_sem] theorem gC_get {f φ : Fl} {n c : Nat} {M : Nat → Nat → FQ} {i : Nat} (h : OM (i < n)) : ((gC f φ n c M).drop i)[0]? = some (.sl f 1 c (qs φ (rowQ c (M i)))) := by
  have h : i < n := h
  simp [gC, List.getElem?_drop, h]
@[go_sem] theorem rowQ_get' {c : Nat} {g : Nat → FQ} {k : Nat} (h : OM (k < c)) : (rowQ c g).getD k FQ.bad = g k := rowQ_get h
end Go.Proofs.Ytgkimfncegbeaaa
namespace Go.Proofs.Ytgkimfncegbeaaa
open Go Go.RowKit
set_option maxRecDepth 100000
set_option maxHeartbeats 4000000
set_option linter.unusedVariables false
set_option linter.unusedSimpArgs false
section
variable {lt : List Nat} {s : St} {t u : TypeId} {x y z : Operand} {n : Nat} {b : BinOp} {c : UnOp} {k : Call} {a : Array (Nat × Operand)}
@[go_sem ↓] theorem sepO_load : sepO lt (.load t x) s = True := (rfl)
@[go_sem ↓] theorem sepO_move : sepO lt (.move x) s = True := (rfl)
@[go_sem ↓] theorem sepO_assign : sepO lt (.assign x) s = True := (rfl)
@[go_sem ↓] theorem sepO_nilc : sepO lt (.nilCheck x) s = True := (rfl)
@[go_sem ↓] theorem sepO_fa : sepO lt (.fieldAddr t x n) s = True := (rfl)
@[go_sem ↓] theorem sepO_ia : sepO lt (.indexAddr t x y) s = True := (rfl)
@[go_sem ↓] theorem sepO_bin : sepO lt (.binOp b t x y u) s = True := (rfl)
@[go_sem ↓] theorem sepO_un : sepO lt (.unOp c t x) s = True := (rfl)
@[go_sem ↓] theorem sepO_pick : sepO lt (.pick x y z) s = True := (rfl)
@[go_sem ↓] theorem sepO_call : sepO lt (.call k) s = True := (rfl)
@[go_sem ↓] theorem sepO_box : sepO lt (.box t x) s = True := (rfl)
@[go_sem ↓] theorem sepO_alloc : sepO lt (.alloc t) s = True := (rfl)
@[go_sem ↓] theorem sepO_build : sepO lt (.build t a) s = True := (rfl)
@[go_sem ↓] theorem sepO_bsl : sepO lt (.buildSlice t n a) s = True := (rfl)
@[go_sem ↓] theorem sepO_ex : sepO lt (.extract x n) s = True := (rfl)
@[go_sem ↓] theorem sepO_cv : sepO lt (.convert t u x) s = True := (rfl)
end
@[go_sem] theorem rowQ_qs_get {f : Fl} {c : Nat} {g : Nat → FQ} {k : Nat} (h : OM (k < c)) : ((qs f (rowQ c g)).drop k)[0]? = some (pQ f (g k)) := by
  have h : k < c := h
  rw [qs_get (OM.mk (by rw [rowQ_length]; exact h)), rowQ_get h]
end Go.Proofs.Ytgkimfncegbeaaa

namespace Go.Proofs.Ytgkimfncegbeaaa
open Go Go.RowKit
set_option maxRecDepth 100000
set_option maxHeartbeats 4000000
set_option linter.unusedVariables false
set_option linter.unusedSimpArgs false
def gridL (n c : Nat) (M : Nat → Nat → FQ) : List FQ := (List.range n).flatMap fun i => rowQ c (M i)
theorem gridL_succ {n c : Nat} {M : Nat → Nat → FQ} : gridL (n + 1) c M = gridL n c M ++ rowQ c (M n) := by simp [gridL, List.range_succ]
@[go_sem] theorem gridL_length {n c : Nat} {M : Nat → Nat → FQ} : (gridL n c M).length = n * c := by
  induction n with
  | zero => simp [gridL]
  | succ n ih => rw [gridL_succ, List.length_append, ih, rowQ_length, Nat.succ_mul]
theorem allG_app {a b : List FQ} : allG (a ++ b) = (allG a && allG b) := by unfold allG; rw [List.all_append]
theorem gridL_no {n c k : Nat} {M : Nat → Nat → FQ} (hk : k < n) (h : allG (rowQ c (M k)) = false) : allG (gridL n c M) = false := by
  induction n with
  | zero => omega
  | succ n ih =>
    rw [gridL_succ, allG_app]
    rcases Nat.lt_or_eq_of_le (Nat.le_of_lt_succ hk) with h1 | rfl
    · rw [ih h1]; rfl
    · rw [h]; simp
def cloQ (n c : Nat) (M : Nat → Nat → FQ) : MD × Bool := if allG (gridL n c M) = true then (⟨n, c, (gridL n c M).map qd⟩, true) else (MD.zero, false)
abbrev moG (p : MD × Bool) : V := .tup [mtO p.1, Bo p.2]
@[go_sem] theorem mdz_rows : MD.zero.rows = 0 := (rfl)
@[go_sem] theorem mdz_cols : MD.zero.cols = 0 := (rfl)
@[go_sem] theorem mdz_cells : MD.zero.cells = [] := (rfl)
@[go_sem] theorem le_rowQ {H : List Ob} {f g : Fl} {c : Nat} {M : Nat → FQ} (hf : f ≠ .u) (hg : g ≠ .u) : Le H .b (.sl f 1 c (qs g (rowQ c M))) (sQ f g (rowQ c M)) = True := by
  rw [le_sQn hf hg (OM.mk (by rw [rowQ_length]))]
theorem closed_g (n c : Nat) (hn : n ≤ 24) (hc : c ≤ 24) (f : Fl) (hf : f ≠ .u) (M : Nat → Nat → FQ) : GC PP F_impl_grid_closed [gV f n c M] [] (moG (cloQ n c M)) (mtH (cloQ n c M).1) := by
  have hnc := rc_le hn hc
  refine txg W_impl_grid_closed ke_impl_grid_closed 0 [] [] [8] rfl (by kernel_rfl) ?_
  simp -dsimp(disch:=first|exact om|fail)only[go_sem,↓reduceIte,Nat.reduceEqDiff,Nat.reduceAdd,Nat.reduceSub,Nat.reduceMul,Nat.reduceLT,Nat.reduceLeDiff,reduceCtorEq,a_eq,a_neq,a_cast0,a_pred,a_app1,a_zero,Int.reduceToNat]
  refine loopJ (fun k : Nat => k ≤ n ∧ allG (gridL k c M) = true) (fun k => ⟨[(2, .ref 0 0), (4, .ref 1 0), (15, .sl f 1 n (gC f f n c M)), (16, I n), (17, I k)], [⟨.own, T_impl_Matrix, [I 0, I 0, .emp]⟩, ⟨.own, T_impl_Matrix, [I n, I c, .rsl 2 3 0 (k * c)]⟩, ⟨.own, T_impl_Rat, rsC .u ((gridL k c M).map qd)⟩]⟩) (fun k => n - k) 0 ⟨by omega, rfl⟩ ?_ ?_
  · refine StI.ren [some 1, some 2, none] [[], [], []] lE (by decide) ?_ lW
    simp -dsimp(disch:=first|exact om|fail)only[go_sem,↓reduceIte,Nat.reduceEqDiff,Nat.reduceAdd,Nat.reduceSub,Nat.reduceMul,Nat.reduceLT,Nat.reduceLeDiff,reduceCtorEq,a_eq,a_neq,a_cast0,a_pred,a_app1,a_zero,Int.reduceToNat, Nat.zero_mul, show (gridL 0 c M).map qd = [] from rfl]
  rintro k ⟨hk, hp⟩
  by_cases h : k < n
  · have hkc : (k + 1) * c ≤ n * c := Nat.mul_le_mul_right c h
    rw [Nat.succ_mul] at hkc
    have hgl : ((gridL k c M).map qd).length = k * c := by rw [List.length_map, gridL_length]
    have hgs : (gridL (k + 1) c M).map qd = (gridL k c M).map qd ++ (rowQ c (M k)).map qd := by rw [gridL_succ, List.map_append]
    have hrl : ((rowQ c (M k)).map qd).length = c := by rw [List.length_map, rowQ_length]
    cases hg : allG (rowQ c (M k))
    · rw [show cloQ n c M = (MD.zero, false) by unfold cloQ; rw [gridL_no h hg]; rfl]
      simp -dsimp(disch:=first|exact om|fail)only[go_sem,↓reduceIte,Nat.reduceEqDiff,Nat.reduceAdd,Nat.reduceSub,Nat.reduceMul,Nat.reduceLT,Nat.reduceLeDiff,reduceCtorEq,a_eq,a_neq,a_cast0,a_pred,a_app1,a_zero,Int.reduceToNat]
      refine callO' (stores_no f f hf hf (rowQ c (M k)) (by rw [rowQ_length]; omega) hg) lW lF ?_
      simp -dsimp(disch:=first|exact om|fail)only[go_sem,↓reduceIte,Nat.reduceEqDiff,Nat.reduceAdd,Nat.reduceSub,Nat.reduceMul,Nat.reduceLT,Nat.reduceLeDiff,reduceCtorEq,a_eq,a_neq,a_cast0,a_pred,a_app1,a_zero,Int.reduceToNat]
      exact RtG.ren [none] [[]] trivial (by decide) lW lW
    · simp -dsimp(disch:=first|exact om|fail)only[go_sem,↓reduceIte,Nat.reduceEqDiff,Nat.reduceAdd,Nat.reduceSub,Nat.reduceMul,Nat.reduceLT,Nat.reduceLeDiff,reduceCtorEq,a_eq,a_neq,a_cast0,a_pred,a_app1,a_zero,Int.reduceToNat]
      refine callO' (stores_ok f f hf hf (rowQ c (M k)) (by rw [rowQ_length]; omega) hg) lW lF ?_
      have hp1 : allG (gridL (k + 1) c M) = true := by rw [gridL_succ, allG_app, hp, hg]; rfl
      generalize (gridL k c M).map qd = L1 at *
      generalize (rowQ c (M k)).map qd = L2 at *
      simp -dsimp(disch:=first|exact om|fail)only[go_sem,↓reduceIte,Nat.reduceEqDiff,Nat.reduceAdd,Nat.reduceSub,Nat.reduceMul,Nat.reduceLT,Nat.reduceLeDiff,reduceCtorEq,a_eq,a_neq,a_cast0,a_pred,a_app1,a_zero,Int.reduceToNat, hgl, hrl]
      refine ⟨k + 1, ⟨by omega, hp1⟩, by omega, ?_⟩
      rw [Nat.succ_mul, hgs]
      refine StI.ren [some 0, some 1, some 4] [[], [], []] lE (by decide) ?_ lW
      rw [rsC_append]
      simp -dsimp(disch:=first|exact om|fail)only[go_sem,↓reduceIte,Nat.reduceEqDiff,Nat.reduceAdd,Nat.reduceSub,Nat.reduceMul,Nat.reduceLT,Nat.reduceLeDiff,reduceCtorEq,a_eq,a_neq,a_cast0,a_pred,a_app1,a_zero,Int.reduceToNat]
      exact RnL.app (k1 := []) (rnL_rsC (by simp)) (rnL_rsC (by simp))
  · obtain rfl : k = n := by omega
    have hgl : ((gridL k c M).map qd).length = k * c := by rw [List.length_map, gridL_length]
    rw [show cloQ k c M = (⟨k, c, (gridL k c M).map qd⟩, true) by unfold cloQ; rw [if_pos hp]]
    simp -dsimp(disch:=first|exact om|fail)only[go_sem,↓reduceIte,Nat.reduceEqDiff,Nat.reduceAdd,Nat.reduceSub,Nat.reduceMul,Nat.reduceLT,Nat.reduceLeDiff,reduceCtorEq,a_eq,a_neq,a_cast0,a_pred,a_app1,a_zero,Int.reduceToNat]
    refine RtG.nothing [some 2] lE (by decide) ?_ (by simp -dsimp(disch:=first|exact om|fail)only[go_sem,↓reduceIte,Nat.reduceEqDiff,Nat.reduceAdd,Nat.reduceSub,Nat.reduceMul,Nat.reduceLT,Nat.reduceLeDiff,reduceCtorEq,a_eq,a_neq,a_cast0,a_pred,a_app1,a_zero,Int.reduceToNat, hgl])
    simp -dsimp(disch:=first|exact om|fail)only[go_sem,↓reduceIte,Nat.reduceEqDiff,Nat.reduceAdd,Nat.reduceSub,Nat.reduceMul,Nat.reduceLT,Nat.reduceLeDiff,reduceCtorEq,a_eq,a_neq,a_cast0,a_pred,a_app1,a_zero,Int.reduceToNat, List.map_cons, List.map_nil]
@[go_sem] theorem le_gC {H : List Ob} {n c : Nat} {M : Nat → Nat → FQ} : Le H .b (.sl .b 1 n (gC .b .b n c M)) (.sl .b 1 n (gC .b .b n c M)) = True := eq_true (.sl _ _ _ _ _ _ ⟨rfl, rfl⟩ leL_gC)
theorem allG_mem {l : List FQ} : allG l = true ↔ ∀ x ∈ l, x.good = true := by unfold allG; rw [List.all_eq_true]
theorem gridL_all {n c : Nat} {M : Nat → Nat → FQ} (h : ∀ i k, i < n → k < c → (M i k).good = true) : allG (gridL n c M) = true := by
  rw [allG_mem]
  intro x hx
  obtain ⟨i, hi, hx⟩ := List.mem_flatMap.1 hx
  obtain ⟨k, hk, rfl⟩ := List.mem_map.1 hx
  exact h i k (List.mem_range.1 hi) (List.mem_range.1 hk)
theorem MD.at_ok {m : MD} {r c i k : Nat} (hg : m.Good r c) (hi : i < r) (hk : k < c) : (m.at c i k).good = true ∧ qd (m.at c i k) = m.cells.getD (i * c + k) RD.zero := by
  have := getD_all hg.all (d := RD.zero) (i := i * c + k) (by rw [hg.len]; exact ix_lt hi hk)
  unfold MD.at
  exact ⟨by rw [rdq_good]; exact this, qd_rdq this⟩
end Go.Proofs.Ytgkimfncegbeaaa
namespace Go.Proofs.Ytgkimfncegbeaaa
open Go Go.RowKit
set_option maxRecDepth 100000
set_option maxHeartbeats 4000000
set_option linter.unusedVariables false
set_option linter.unusedSimpArgs false
theorem leL_us {l : List RD} : LeL [] .s (rsC .u l) (rsC .s l) := leL_rsC fun m => Le.slU
end Go.Proofs.Ytgkimfncegbeaaa
