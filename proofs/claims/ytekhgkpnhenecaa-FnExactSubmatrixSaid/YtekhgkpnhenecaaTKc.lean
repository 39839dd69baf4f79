/- part of the proof -/
import Derived.Test.YtekhgkpnhenecaaTKb
namespace Go.Proofs.Ytekhgkpnhenecaa
open Go Go.RowKit
set_option maxRecDepth 100000
set_option maxHeartbeats 4000000
set_option linter.unusedVariables false
set_option linter.unusedSimpArgs false
def ascP (n : Int) (l : List Int) (i : Nat) : Bool := decide (0 ≤ l.getD i 0 ∧ l.getD i 0 ≤ n - 1) && (decide (i = 0) || decide (l.getD (i - 1) 0 < l.getD i 0))
def ascB (n : Int) (l : List Int) : Bool := (List.range l.length).all (ascP n l)
theorem rng_step {p : Nat → Bool} {k : Nat} (h : (List.range k).all p = true) (h2 : p k = true) : (List.range (k + 1)).all p = true := by
  rw [List.range_succ, List.all_append, h]; simp [h2]
theorem rng_no {p : Nat → Bool} {k n : Nat} (h : k < n) (h2 : p k = false) : false = (List.range n).all p := by
  cases e : (List.range n).all p with
  | false => rfl
  | true => rw [List.all_eq_true] at e; rw [e k (List.mem_range.2 h)] at h2; exact h2.symm
theorem rng_get {p : Nat → Bool} {k n : Nat} (h : (List.range n).all p = true) (hk : k < n) : p k = true := by
  rw [List.all_eq_true] at h; exact h k (List.mem_range.2 hk)
theorem asc_get {n : Int} {l : List Int} (h : ascB n l = true) {i : Nat} (hi : i < l.length) : ∃ x : Nat, l.getD i 0 = x ∧ (x : Int) < n ∧ i ≤ x := by
  induction i with
  | zero =>
    have q := rng_get h hi
    unfold ascP at q
    simp only [Bool.and_eq_true, decide_eq_true_eq] at q
    exact ⟨(l.getD 0 0).toNat, by omega, by omega, by omega⟩
  | succ i ih =>
    obtain ⟨y, hy, hyn, hiy⟩ := ih (by omega)
    have q := rng_get h hi
    unfold ascP at q
    simp only [Bool.and_eq_true, Bool.or_eq_true, decide_eq_true_eq] at q
    rw [show i + 1 - 1 = i from rfl, hy] at q
    exact ⟨(l.getD (i + 1) 0).toNat, by omega, by omega, by omega⟩
theorem asc_len {n : Nat} {l : List Int} (h : ascB n l = true) : l.length ≤ n := by
  rcases Nat.eq_zero_or_pos l.length with h0 | h0
  · omega
  · obtain ⟨x, _, h1, h2⟩ := asc_get h (i := l.length - 1) (by omega)
    omega
theorem l08Ascending_c (f : Fl) (hf : f ≠ .u) (l : List Int) (n : Nat) (hl : l.length ≤ 1048576) (hn : n ≤ 24) : PC PP F_spec_l08Ascending [sI f l, I n] (Bo (ascB n l)) [] := by
  refine tx W_spec_l08Ascending ke_spec_l08Ascending [] (by kernel_rfl) ?_
  unfold ascB
  simp -dsimp (disch := first | assumption | (refine OM.mk ?_; first | omega | (simp only [List.length_map, List.length_set, List.length_take] <;> omega)) | (simp -dsimp only [go_sem]; done) | fail) only [go_sem, ↓reduceIte, Nat.reduceEqDiff, Nat.reduceAdd, Nat.reduceSub, Nat.reduceMul, Nat.reduceLT, Nat.reduceLeDiff, reduceCtorEq, a_eq, a_neq, a_cast0, a_pred, a_app1, a_zero, Int.reduceToNat]
  refine loopI (fun k : Nat => k ≤ l.length ∧ (List.range k).all (ascP n l) = true) (fun k => ⟨[(0, sI f l), (1, I n), (7, sI f l), (8, I l.length), (9, I k)], []⟩) (fun k => l.length - k) 0 ⟨by omega, rfl⟩ ?_ ?_
  · simp -dsimp (disch := first | assumption | (refine OM.mk ?_; first | omega | (simp only [List.length_map, List.length_set, List.length_take] <;> omega)) | (simp -dsimp only [go_sem]; done) | fail) only [go_sem, ↓reduceIte, Nat.reduceEqDiff, Nat.reduceAdd, Nat.reduceSub, Nat.reduceMul, Nat.reduceLT, Nat.reduceLeDiff, reduceCtorEq, a_eq, a_neq, a_cast0, a_pred, a_app1, a_zero, Int.reduceToNat]
  rintro k ⟨hk, hp⟩
  by_cases h : k < l.length
  · simp -dsimp (disch := first | assumption | (refine OM.mk ?_; first | omega | (simp only [List.length_map, List.length_set, List.length_take] <;> omega)) | (simp -dsimp only [go_sem]; done) | fail) only [go_sem, ↓reduceIte, Nat.reduceEqDiff, Nat.reduceAdd, Nat.reduceSub, Nat.reduceMul, Nat.reduceLT, Nat.reduceLeDiff, reduceCtorEq, a_eq, a_neq, a_cast0, a_pred, a_app1, a_zero, Int.reduceToNat]
    refine callP (l01In_c (l.getD k 0) 0 ((n : Int) - 1)) (by simp -dsimp (disch := first | assumption | (simp -dsimp only [go_sem]; done) | fail) only [go_sem]) ?_
    by_cases a1 : 0 ≤ l.getD k 0 ∧ l.getD k 0 ≤ (n : Int) - 1
    · rw [decide_eq_true a1]
      cases k with
      | zero =>
        simp -dsimp (disch := first | assumption | (refine OM.mk ?_; first | omega | (simp only [List.length_map, List.length_set, List.length_take] <;> omega)) | (simp -dsimp only [go_sem]; done) | fail) only [go_sem, ↓reduceIte, Nat.reduceEqDiff, Nat.reduceAdd, Nat.reduceSub, Nat.reduceMul, Nat.reduceLT, Nat.reduceLeDiff, reduceCtorEq, a_eq, a_neq, a_cast0, a_pred, a_app1, a_zero, Int.reduceToNat]
        exact ⟨1, ⟨by omega, rng_step hp (by unfold ascP; rw [decide_eq_true a1]; rfl)⟩, by omega, rfl⟩
      | succ j =>
        have e0 : ascP n l (j + 1) = decide (l.getD j 0 < l.getD (j + 1) 0) := by unfold ascP; rw [decide_eq_true a1]; simp
        by_cases a2 : l.getD j 0 < l.getD (j + 1) 0
        · rw [decide_eq_true a2] at e0
          simp -dsimp (disch := first | assumption | (refine OM.mk ?_; first | omega | (simp only [List.length_map, List.length_set, List.length_take] <;> omega)) | (simp -dsimp only [go_sem]; done) | fail) only [go_sem, ↓reduceIte, Nat.reduceEqDiff, Nat.reduceAdd, Nat.reduceSub, Nat.reduceMul, Nat.reduceLT, Nat.reduceLeDiff, reduceCtorEq, a_eq, a_neq, a_cast0, a_pred, a_app1, a_zero, Int.reduceToNat]
          exact ⟨j + 2, ⟨by omega, rng_step hp e0⟩, by omega, by omega⟩
        · rw [decide_eq_false a2] at e0
          simp -dsimp (disch := first | assumption | (refine OM.mk ?_; first | omega | (simp only [List.length_map, List.length_set, List.length_take] <;> omega)) | (simp -dsimp only [go_sem]; done) | fail) only [go_sem, ↓reduceIte, Nat.reduceEqDiff, Nat.reduceAdd, Nat.reduceSub, Nat.reduceMul, Nat.reduceLT, Nat.reduceLeDiff, reduceCtorEq, a_eq, a_neq, a_cast0, a_pred, a_app1, a_zero, Int.reduceToNat]
          exact rng_no h e0
    · have e0 : ascP n l k = false := by unfold ascP; rw [decide_eq_false a1]; rfl
      rw [decide_eq_false a1]
      simp -dsimp (disch := first | assumption | (refine OM.mk ?_; first | omega | (simp only [List.length_map, List.length_set, List.length_take] <;> omega)) | (simp -dsimp only [go_sem]; done) | fail) only [go_sem, ↓reduceIte, Nat.reduceEqDiff, Nat.reduceAdd, Nat.reduceSub, Nat.reduceMul, Nat.reduceLT, Nat.reduceLeDiff, reduceCtorEq, a_eq, a_neq, a_cast0, a_pred, a_app1, a_zero, Int.reduceToNat]
      exact rng_no h e0
  · obtain rfl : k = l.length := by omega
    simp -dsimp (disch := first | assumption | (refine OM.mk ?_; first | omega | (simp only [List.length_map, List.length_set, List.length_take] <;> omega)) | (simp -dsimp only [go_sem]; done) | fail) only [go_sem, ↓reduceIte, Nat.reduceEqDiff, Nat.reduceAdd, Nat.reduceSub, Nat.reduceMul, Nat.reduceLT, Nat.reduceLeDiff, reduceCtorEq, a_eq, a_neq, a_cast0, a_pred, a_app1, a_zero, Int.reduceToNat]
    exact hp.symm
def subN (m : MD) (l : List Int) (i k : Nat) : RD := m.cells.getD ((l.getD i 0).toNat * m.rows.toNat + (l.getD k 0).toNat) RD.zero
def subM (m : MD) (l : List Int) : MD × Bool := if (m.ok && decide (m.rows = m.cols) && ascB m.rows l) = true then (⟨l.length, l.length, gridR l.length l.length (subN m l)⟩, true) else (MD.zero, false)
theorem subM_no {m : MD} {l : List Int} (h : (m.ok && decide (m.rows = m.cols) && ascB m.rows l) = false) : subM m l = (MD.zero, false) := by unfold subM; rw [h]; rfl
theorem subM_ok {m : MD} {l : List Int} (h : (m.ok && decide (m.rows = m.cols) && ascB m.rows l) = true) : subM m l = (⟨l.length, l.length, gridR l.length l.length (subN m l)⟩, true) := by unfold subM; rw [if_pos h]
theorem l08Part_c (m : MD) (f g : Fl) (hf : f ≠ .u) (hg0 : g ≠ .u) (l : List Int) (n : Nat) (hg : m.Good n n) (hs : smallL m.cells) (ha : ascB n l = true) :
    PC PP F_spec_l08Part [mtV f m, sI g l] (mtV .s ⟨l.length, l.length, gridR l.length l.length (subN m l)⟩) [] := by
  have hr := hg.er
  have hc := hg.ec
  have h24 := hg.r24
  have hlen := hg.len
  have hll := asc_len ha
  have hN : ∀ i k, i < l.length → k < l.length → ∃ x y : Nat, l.getD i 0 = x ∧ l.getD k 0 = y ∧ (subN m l i k).small ∧ PB PP F_spec_l06At [V.agg [I n, I n, sR f m.cells], I x, I y] (rV .b (subN m l i k)) [] := by
    intro i k hi hk
    obtain ⟨x, hx, hxn, _⟩ := asc_get ha hi
    obtain ⟨y, hy, hyn, _⟩ := asc_get ha hk
    have q := l06At_b m f hf n n x y hg hs (by omega) (by omega)
    simp only [mtV, mtC, hr, hc] at q
    have e : subN m l i k = m.cells.getD (x * n + y) RD.zero := by unfold subN; rw [hx, hy, hr]; rfl
    rw [e]
    exact ⟨x, y, hx, hy, hs.getD (by rw [hlen]; exact ix_lt (by omega) (by omega)), q⟩
  generalize subN m l = N at *
  have hLL := rc_le (r := l.length) (c := l.length) (by omega) (by omega)
  refine txe W_spec_l08Part ke_spec_l08Part [(11, [3])] [] [] (by kernel_rfl) ?_
  simp -dsimp (disch := first | assumption | (refine OM.mk ?_; first | omega | (simp only [List.length_map, List.length_set, List.length_take] <;> omega)) | (simp -dsimp only [go_sem]; done) | fail) only [go_sem, ↓reduceIte, Nat.reduceEqDiff, Nat.reduceAdd, Nat.reduceSub, Nat.reduceMul, Nat.reduceLT, Nat.reduceLeDiff, reduceCtorEq, a_eq, a_neq, a_cast0, a_pred, a_app1, a_zero, Int.reduceToNat,  hr, hc]
  refine loopJ (fun k : Nat => k ≤ l.length) (fun k => ⟨[(1, sI g l), (2, .ref 0 0), (4, .ref 1 0), (5, .ref 2 0), (15, sI g l), (16, I l.length), (17, I k)], [⟨.own, T_impl_Matrix, [I n, I n, sR f m.cells]⟩, ⟨.own, T_impl_Matrix, [I 0, I 0, .emp]⟩, ⟨.own, T_impl_Matrix, [I l.length, I l.length, .rsl 3 3 0 (k * l.length)]⟩, ⟨.own, T_impl_Rat, rsC .s (gridR k l.length N)⟩]⟩) (fun k => l.length - k) 0 (by omega) ?_ ?_
  · refine StI.ren [some 0, some 1, some 2, none] [[], [], [], []] (by simp -dsimp only [go_sem, ↓reduceIte, Nat.reduceEqDiff, Nat.reduceAdd, Nat.reduceSub, Nat.reduceMul, Nat.reduceLT, Nat.reduceLeDiff, reduceCtorEq]) (by decide) ?_ (by simp -dsimp (disch := first | assumption | (refine OM.mk ?_; first | omega | (simp only [List.length_map, List.length_set, List.length_take] <;> omega)) | (simp -dsimp only [go_sem]; done) | fail) only [go_sem, ↓reduceIte, Nat.reduceEqDiff, Nat.reduceAdd, Nat.reduceSub, Nat.reduceMul, Nat.reduceLT, Nat.reduceLeDiff, reduceCtorEq, a_eq, a_neq, a_cast0, a_pred, a_app1, a_zero, Int.reduceToNat])
    simp -dsimp (disch := first | assumption | (refine OM.mk ?_; first | omega | (simp only [List.length_map, List.length_set, List.length_take] <;> omega)) | (simp -dsimp only [go_sem]; done) | fail) only [go_sem, ↓reduceIte, Nat.reduceEqDiff, Nat.reduceAdd, Nat.reduceSub, Nat.reduceMul, Nat.reduceLT, Nat.reduceLeDiff, reduceCtorEq, a_eq, a_neq, a_cast0, a_pred, a_app1, a_zero, Int.reduceToNat,  Nat.zero_mul, show gridR 0 l.length N = [] from rfl]
  intro k hk
  by_cases h : k < l.length
  · have hkr : (k + 1) * l.length ≤ l.length * l.length := Nat.mul_le_mul_right _ h
    rw [Nat.succ_mul] at hkr
    simp -dsimp (disch := first | assumption | (refine OM.mk ?_; first | omega | (simp only [List.length_map, List.length_set, List.length_take] <;> omega)) | (simp -dsimp only [go_sem]; done) | fail) only [go_sem, ↓reduceIte, Nat.reduceEqDiff, Nat.reduceAdd, Nat.reduceSub, Nat.reduceMul, Nat.reduceLT, Nat.reduceLeDiff, reduceCtorEq, a_eq, a_neq, a_cast0, a_pred, a_app1, a_zero, Int.reduceToNat]
    refine loopJ (fun i : Nat => i ≤ l.length) (fun i => ⟨[(1, sI g l), (2, .ref 0 0), (4, .ref 1 0), (5, .ref 2 0), (7, I (l.getD k 0)), (15, sI g l), (16, I l.length), (17, I k), (21, sI g l), (22, I l.length), (23, I i)], [⟨.own, T_impl_Matrix, [I n, I n, sR f m.cells]⟩, ⟨.own, T_impl_Matrix, [I 0, I 0, .emp]⟩, ⟨.own, T_impl_Matrix, [I l.length, I l.length, .rsl 3 3 0 (k * l.length + i)]⟩, ⟨.own, T_impl_Rat, rsC .s (partR k l.length i N)⟩]⟩) (fun i => l.length - i) 0 (by omega) ?_ ?_
    · refine StI.ren [some 0, some 1, some 2, some 3] [[], [], [], []] (by simp -dsimp only [go_sem, ↓reduceIte, Nat.reduceEqDiff, Nat.reduceAdd, Nat.reduceSub, Nat.reduceMul, Nat.reduceLT, Nat.reduceLeDiff, reduceCtorEq]) (by decide) ?_ (by simp -dsimp (disch := first | assumption | (refine OM.mk ?_; first | omega | (simp only [List.length_map, List.length_set, List.length_take] <;> omega)) | (simp -dsimp only [go_sem]; done) | fail) only [go_sem, ↓reduceIte, Nat.reduceEqDiff, Nat.reduceAdd, Nat.reduceSub, Nat.reduceMul, Nat.reduceLT, Nat.reduceLeDiff, reduceCtorEq, a_eq, a_neq, a_cast0, a_pred, a_app1, a_zero, Int.reduceToNat])
      rw [partR_zero]
      simp -dsimp (disch := first | assumption | (refine OM.mk ?_; first | omega | (simp only [List.length_map, List.length_set, List.length_take] <;> omega)) | (simp -dsimp only [go_sem]; done) | fail) only [go_sem, ↓reduceIte, Nat.reduceEqDiff, Nat.reduceAdd, Nat.reduceSub, Nat.reduceMul, Nat.reduceLT, Nat.reduceLeDiff, reduceCtorEq, a_eq, a_neq, a_cast0, a_pred, a_app1, a_zero, Int.reduceToNat,  Nat.add_zero]
    intro i hi
    by_cases h2 : i < l.length
    · obtain ⟨x, y, hx, hy, hsm, q⟩ := hN k i h h2
      have hpl := partR_length (n := k) (c := l.length) (k := i) (N := N)
      simp -dsimp (disch := first | assumption | (refine OM.mk ?_; first | omega | (simp only [List.length_map, List.length_set, List.length_take] <;> omega)) | (simp -dsimp only [go_sem]; done) | fail) only [go_sem, ↓reduceIte, Nat.reduceEqDiff, Nat.reduceAdd, Nat.reduceSub, Nat.reduceMul, Nat.reduceLT, Nat.reduceLeDiff, reduceCtorEq, a_eq, a_neq, a_cast0, a_pred, a_app1, a_zero, Int.reduceToNat,  hx, hy]
      refine callB' q (by simp [V.fl2, V.fl1, rdC]) (by simp -dsimp only [go_sem, ↓reduceIte, Nat.reduceEqDiff, Nat.reduceAdd, Nat.reduceSub, Nat.reduceMul, Nat.reduceLT, Nat.reduceLeDiff, reduceCtorEq,  List.forall_mem_cons, List.not_mem_nil, false_implies, implies_true]) ?_
      simp -dsimp (disch := first | assumption | (refine OM.mk ?_; first | omega | (simp only [List.length_map, List.length_set, List.length_take] <;> omega)) | (simp -dsimp only [go_sem]; done) | fail) only [go_sem, ↓reduceIte, Nat.reduceEqDiff, Nat.reduceAdd, Nat.reduceSub, Nat.reduceMul, Nat.reduceLT, Nat.reduceLeDiff, reduceCtorEq, a_eq, a_neq, a_cast0, a_pred, a_app1, a_zero, Int.reduceToNat]
      refine callP (l04Copy_c .b flb (N k i) ⟨hsm.1, hsm.2⟩) (by simp -dsimp (disch := first | assumption | (simp -dsimp only [go_sem]; done) | fail) only [go_sem]) ?_
      simp -dsimp (disch := first | assumption | (refine OM.mk ?_; first | omega | (simp only [List.length_map, List.length_set, List.length_take] <;> omega)) | (simp -dsimp only [go_sem]; done) | fail) only [go_sem, ↓reduceIte, Nat.reduceEqDiff, Nat.reduceAdd, Nat.reduceSub, Nat.reduceMul, Nat.reduceLT, Nat.reduceLeDiff, reduceCtorEq, a_eq, a_neq, a_cast0, a_pred, a_app1, a_zero, Int.reduceToNat,  hpl]
      rw [partR_succ]
      exact ⟨i + 1, by omega, by omega, StI.ren [some 0, some 1, some 2, some 4] [[], [], [], []] (by simp -dsimp only [go_sem, ↓reduceIte, Nat.reduceEqDiff, Nat.reduceAdd, Nat.reduceSub, Nat.reduceMul, Nat.reduceLT, Nat.reduceLeDiff, reduceCtorEq]) (by decide) (by simp -dsimp (disch := first | assumption | (refine OM.mk ?_; first | omega | (simp only [List.length_map, List.length_set, List.length_take] <;> omega)) | (simp -dsimp only [go_sem]; done) | fail) only [go_sem, ↓reduceIte, Nat.reduceEqDiff, Nat.reduceAdd, Nat.reduceSub, Nat.reduceMul, Nat.reduceLT, Nat.reduceLeDiff, reduceCtorEq, a_eq, a_neq, a_cast0, a_pred, a_app1, a_zero, Int.reduceToNat]; omega) (by simp -dsimp (disch := first | assumption | (refine OM.mk ?_; first | omega | (simp only [List.length_map, List.length_set, List.length_take] <;> omega)) | (simp -dsimp only [go_sem]; done) | fail) only [go_sem, ↓reduceIte, Nat.reduceEqDiff, Nat.reduceAdd, Nat.reduceSub, Nat.reduceMul, Nat.reduceLT, Nat.reduceLeDiff, reduceCtorEq, a_eq, a_neq, a_cast0, a_pred, a_app1, a_zero, Int.reduceToNat,  hx])⟩
    · obtain rfl : i = l.length := by omega
      simp -dsimp (disch := first | assumption | (refine OM.mk ?_; first | omega | (simp only [List.length_map, List.length_set, List.length_take] <;> omega)) | (simp -dsimp only [go_sem]; done) | fail) only [go_sem, ↓reduceIte, Nat.reduceEqDiff, Nat.reduceAdd, Nat.reduceSub, Nat.reduceMul, Nat.reduceLT, Nat.reduceLeDiff, reduceCtorEq, a_eq, a_neq, a_cast0, a_pred, a_app1, a_zero, Int.reduceToNat]
      refine ⟨k + 1, by omega, by omega, ?_⟩
      rw [partR_full, Nat.succ_mul]
      exact StI.ren [some 0, some 1, some 2, some 3] [[], [], [], []] (by simp -dsimp only [go_sem, ↓reduceIte, Nat.reduceEqDiff, Nat.reduceAdd, Nat.reduceSub, Nat.reduceMul, Nat.reduceLT, Nat.reduceLeDiff, reduceCtorEq]) (by decide) (by simp -dsimp (disch := first | assumption | (refine OM.mk ?_; first | omega | (simp only [List.length_map, List.length_set, List.length_take] <;> omega)) | (simp -dsimp only [go_sem]; done) | fail) only [go_sem, ↓reduceIte, Nat.reduceEqDiff, Nat.reduceAdd, Nat.reduceSub, Nat.reduceMul, Nat.reduceLT, Nat.reduceLeDiff, reduceCtorEq, a_eq, a_neq, a_cast0, a_pred, a_app1, a_zero, Int.reduceToNat]) (by simp -dsimp (disch := first | assumption | (refine OM.mk ?_; first | omega | (simp only [List.length_map, List.length_set, List.length_take] <;> omega)) | (simp -dsimp only [go_sem]; done) | fail) only [go_sem, ↓reduceIte, Nat.reduceEqDiff, Nat.reduceAdd, Nat.reduceSub, Nat.reduceMul, Nat.reduceLT, Nat.reduceLeDiff, reduceCtorEq, a_eq, a_neq, a_cast0, a_pred, a_app1, a_zero, Int.reduceToNat])
  · obtain rfl : k = l.length := by omega
    have hgl := gridR_length (n := l.length) (c := l.length) (N := N)
    simp -dsimp (disch := first | assumption | (refine OM.mk ?_; first | omega | (simp only [List.length_map, List.length_set, List.length_take] <;> omega)) | (simp -dsimp only [go_sem]; done) | fail) only [go_sem, ↓reduceIte, Nat.reduceEqDiff, Nat.reduceAdd, Nat.reduceSub, Nat.reduceMul, Nat.reduceLT, Nat.reduceLeDiff, reduceCtorEq, a_eq, a_neq, a_cast0, a_pred, a_app1, a_zero, Int.reduceToNat,  hgl]
theorem spec_Submatrix_c (m : MD) (f g : Fl) (hf : f ≠ .u) (hg0 : g ≠ .u) (l : List Int) (hs : smallL m.cells) (hl : l.length ≤ 1048576) : PC PP F_spec_Submatrix [mtV f m, sI g l] (.tup [mtV .s (subM m l).1, Bo (subM m l).2]) [] := by
  refine tx W_spec_Submatrix ke_spec_Submatrix [] (by kernel_rfl) ?_
  simp -dsimp (disch := first | assumption | (refine OM.mk ?_; first | omega | (simp only [List.length_map, List.length_set, List.length_take] <;> omega)) | (simp -dsimp only [go_sem]; done) | fail) only [go_sem, ↓reduceIte, Nat.reduceEqDiff, Nat.reduceAdd, Nat.reduceSub, Nat.reduceMul, Nat.reduceLT, Nat.reduceLeDiff, reduceCtorEq, a_eq, a_neq, a_cast0, a_pred, a_app1, a_zero, Int.reduceToNat]
  refine callP (spec_MatrixOk_c m f hf hs) (by simp -dsimp (disch := first | assumption | (simp -dsimp only [go_sem]; done) | fail) only [go_sem]) ?_
  cases ho : m.ok
  · rw [subM_no (by rw [ho]; rfl)]
    simp -dsimp (disch := first | assumption | (refine OM.mk ?_; first | omega | (simp only [List.length_map, List.length_set, List.length_take] <;> omega)) | (simp -dsimp only [go_sem]; done) | fail) only [go_sem, ↓reduceIte, Nat.reduceEqDiff, Nat.reduceAdd, Nat.reduceSub, Nat.reduceMul, Nat.reduceLT, Nat.reduceLeDiff, reduceCtorEq, a_eq, a_neq, a_cast0, a_pred, a_app1, a_zero, Int.reduceToNat]
  · obtain ⟨r, c, hg⟩ := MD.ok_good ho
    have hr := hg.er
    have hc := hg.ec
    have h24 := hg.r24
    by_cases h : r = c
    · subst h
      simp -dsimp (disch := first | assumption | (refine OM.mk ?_; first | omega | (simp only [List.length_map, List.length_set, List.length_take] <;> omega)) | (simp -dsimp only [go_sem]; done) | fail) only [go_sem, ↓reduceIte, Nat.reduceEqDiff, Nat.reduceAdd, Nat.reduceSub, Nat.reduceMul, Nat.reduceLT, Nat.reduceLeDiff, reduceCtorEq, a_eq, a_neq, a_cast0, a_pred, a_app1, a_zero, Int.reduceToNat,  hr, hc]
      refine callP (l08Ascending_c g hg0 l r hl h24) (by simp -dsimp (disch := first | assumption | (simp -dsimp only [go_sem]; done) | fail) only [go_sem]) ?_
      cases ha : ascB r l
      · rw [subM_no (by rw [ho, hr, hc, ha]; simp)]
        simp -dsimp (disch := first | assumption | (refine OM.mk ?_; first | omega | (simp only [List.length_map, List.length_set, List.length_take] <;> omega)) | (simp -dsimp only [go_sem]; done) | fail) only [go_sem, ↓reduceIte, Nat.reduceEqDiff, Nat.reduceAdd, Nat.reduceSub, Nat.reduceMul, Nat.reduceLT, Nat.reduceLeDiff, reduceCtorEq, a_eq, a_neq, a_cast0, a_pred, a_app1, a_zero, Int.reduceToNat]
      · have q := l08Part_c m f g hf hg0 l r hg hs ha
        simp only [mtV, mtC, hr, hc] at q
        rw [subM_ok (by rw [ho, hr, hc, ha]; simp)]
        simp -dsimp (disch := first | assumption | (refine OM.mk ?_; first | omega | (simp only [List.length_map, List.length_set, List.length_take] <;> omega)) | (simp -dsimp only [go_sem]; done) | fail) only [go_sem, ↓reduceIte, Nat.reduceEqDiff, Nat.reduceAdd, Nat.reduceSub, Nat.reduceMul, Nat.reduceLT, Nat.reduceLeDiff, reduceCtorEq, a_eq, a_neq, a_cast0, a_pred, a_app1, a_zero, Int.reduceToNat]
        refine callP q (by simp -dsimp (disch := first | assumption | (simp -dsimp only [go_sem]; done) | fail) only [go_sem]) ?_
        simp -dsimp (disch := first | assumption | (refine OM.mk ?_; first | omega | (simp only [List.length_map, List.length_set, List.length_take] <;> omega)) | (simp -dsimp only [go_sem]; done) | fail) only [go_sem, ↓reduceIte, Nat.reduceEqDiff, Nat.reduceAdd, Nat.reduceSub, Nat.reduceMul, Nat.reduceLT, Nat.reduceLeDiff, reduceCtorEq, a_eq, a_neq, a_cast0, a_pred, a_app1, a_zero, Int.reduceToNat]
    · rw [subM_no (by rw [ho, hr, hc, decide_eq_false (by omega)]; simp)]
      simp -dsimp (disch := first | assumption | (refine OM.mk ?_; first | omega | (simp only [List.length_map, List.length_set, List.length_take] <;> omega)) | (simp -dsimp only [go_sem]; done) | fail) only [go_sem, ↓reduceIte, Nat.reduceEqDiff, Nat.reduceAdd, Nat.reduceSub, Nat.reduceMul, Nat.reduceLT, Nat.reduceLeDiff, reduceCtorEq, a_eq, a_neq, a_cast0, a_pred, a_app1, a_zero, Int.reduceToNat,  hr, hc]
end Go.Proofs.Ytekhgkpnhenecaa
namespace Go.Proofs.Ytekhgkpnhenecaa
open Go Go.RowKit
set_option maxRecDepth 100000
set_option maxHeartbeats 4000000
set_option linter.unusedVariables false
set_option linter.unusedSimpArgs false
theorem sub1_b (n : Nat) (hn : n ≤ 24) (M : Nat → Nat → FQ) (l : List Int) (hl : l.length ≤ n) (ha : ascB n l = true) (i k : Nat) (hi : i < l.length) (hk : k < l.length) :
    PB PP F_impl_Submatrix_1 [I i, I k, .ptr .b [I n, I n, .sl .b 1 n (gC .b .b n n M)], .ptr .b [sI .b l]] (pQ .b (M (l.getD i 0).toNat (l.getD k 0).toNat)) [] := by
  obtain ⟨x, hx, hxn, _⟩ := asc_get ha hi
  obtain ⟨y, hy, hyn, _⟩ := asc_get ha hk
  refine txb W_impl_Submatrix_1 ke_impl_Submatrix_1 [] [] [] (by kernel_rfl) ?_
  simp -dsimp (disch := first | assumption | (refine OM.mk ?_; first | omega | (simp only [List.length_map, List.length_set, List.length_take] <;> omega)) | (simp -dsimp only [go_sem]; done) | fail) only [go_sem, ↓reduceIte, Nat.reduceEqDiff, Nat.reduceAdd, Nat.reduceSub, Nat.reduceMul, Nat.reduceLT, Nat.reduceLeDiff, reduceCtorEq, a_eq, a_neq, a_cast0, a_pred, a_app1, a_zero, Int.reduceToNat,  hx, hy]
  exact RtB.nothing [] (by decide) trivial (by simp -dsimp (disch := first | assumption | (refine OM.mk ?_; first | omega | (simp only [List.length_map, List.length_set, List.length_take] <;> omega)) | (simp -dsimp only [go_sem]; done) | fail) only [go_sem, ↓reduceIte, Nat.reduceEqDiff, Nat.reduceAdd, Nat.reduceSub, Nat.reduceMul, Nat.reduceLT, Nat.reduceLeDiff, reduceCtorEq, a_eq, a_neq, a_cast0, a_pred, a_app1, a_zero, Int.reduceToNat])
theorem last_asc {n : Nat} {l : List Int} {k : Nat} (hp : (List.range k).all (ascP n l) = true) {last : Int} (e : last = if k = 0 then -1 else l.getD (k - 1) 0) : ascP n l k = (!(decide (l.getD k 0 ≤ last)) && !(decide ((n : Int) ≤ l.getD k 0))) := by
  unfold ascP
  rw [Bool.eq_iff_iff]
  cases k with
  | zero =>
    rw [if_pos rfl] at e
    subst e
    simp
    omega
  | succ j =>
    have q := rng_get hp (Nat.lt_succ_self j)
    unfold ascP at q
    rw [if_neg (by omega), Nat.add_sub_cancel] at e
    rw [Nat.add_sub_cancel]
    simp only [Bool.and_eq_true, Bool.or_eq_true, Bool.not_eq_true', decide_eq_true_eq, decide_eq_false_iff_not] at q ⊢
    omega
theorem impl_Submatrix_g (m : MD) (f g : Fl) (hf : f ≠ .u) (hg0 : g ≠ .u) (l : List Int) (hs : smallL m.cells) (hl : l.length ≤ 1048576) : GC PP F_impl_Submatrix [mtV f m, sI g l] [] (moG (subM m l)) (mtH (subM m l).1) := by
  cases hk : (m.ok && decide (m.rows = m.cols))
  · obtain ⟨r, c, M, q⟩ := square_no m f hf hk hs
    rw [subM_no (by rw [hk]; rfl)]
    refine txg W_impl_Submatrix ke_impl_Submatrix 0 [] [] [] rfl (by kernel_rfl) ?_
    simp -dsimp (disch := first | assumption | (refine OM.mk ?_; first | omega | (simp only [List.length_map, List.length_set, List.length_take] <;> omega)) | (simp -dsimp only [go_sem]; done) | fail) only [go_sem, ↓reduceIte, Nat.reduceEqDiff, Nat.reduceAdd, Nat.reduceSub, Nat.reduceMul, Nat.reduceLT, Nat.reduceLeDiff, reduceCtorEq, a_eq, a_neq, a_cast0, a_pred, a_app1, a_zero, Int.reduceToNat]
    refine callB' q (by simp [V.fl2, V.fl1, rdC]) (by simp -dsimp only [go_sem, ↓reduceIte, Nat.reduceEqDiff, Nat.reduceAdd, Nat.reduceSub, Nat.reduceMul, Nat.reduceLT, Nat.reduceLeDiff, reduceCtorEq,  List.forall_mem_cons, List.not_mem_nil, false_implies, implies_true]) ?_
    simp -dsimp (disch := first | assumption | (refine OM.mk ?_; first | omega | (simp only [List.length_map, List.length_set, List.length_take] <;> omega)) | (simp -dsimp only [go_sem]; done) | fail) only [go_sem, ↓reduceIte, Nat.reduceEqDiff, Nat.reduceAdd, Nat.reduceSub, Nat.reduceMul, Nat.reduceLT, Nat.reduceLeDiff, reduceCtorEq, a_eq, a_neq, a_cast0, a_pred, a_app1, a_zero, Int.reduceToNat]
    exact RtG.ren [none] [[]] trivial (by decide) (by simp -dsimp (disch := first | assumption | (refine OM.mk ?_; first | omega | (simp only [List.length_map, List.length_set, List.length_take] <;> omega)) | (simp -dsimp only [go_sem]; done) | fail) only [go_sem, ↓reduceIte, Nat.reduceEqDiff, Nat.reduceAdd, Nat.reduceSub, Nat.reduceMul, Nat.reduceLT, Nat.reduceLeDiff, reduceCtorEq, a_eq, a_neq, a_cast0, a_pred, a_app1, a_zero, Int.reduceToNat]) (by simp -dsimp (disch := first | assumption | (refine OM.mk ?_; first | omega | (simp only [List.length_map, List.length_set, List.length_take] <;> omega)) | (simp -dsimp only [go_sem]; done) | fail) only [go_sem, ↓reduceIte, Nat.reduceEqDiff, Nat.reduceAdd, Nat.reduceSub, Nat.reduceMul, Nat.reduceLT, Nat.reduceLeDiff, reduceCtorEq, a_eq, a_neq, a_cast0, a_pred, a_app1, a_zero, Int.reduceToNat])
  have hk' := hk
  simp only [Bool.and_eq_true, decide_eq_true_eq] at hk'
  obtain ⟨ho, hk'⟩ := hk'
  obtain ⟨n, c, hg⟩ := MD.ok_good ho
  obtain rfl : n = c := by have := hg.er; have := hg.ec; omega
  have hr := hg.er
  have hc := hg.ec
  have h24 := hg.r24
  have q := square_ok m f hf n hg hs
  have hM : ∀ i k, i < l.length → k < l.length → ascB n l = true → (m.at n (l.getD i 0).toNat (l.getD k 0).toNat).good = true ∧ qd (m.at n (l.getD i 0).toNat (l.getD k 0).toNat) = subN m l i k := by
    intro i k hi hk ha
    obtain ⟨x, hx, hxn, _⟩ := asc_get ha hi
    obtain ⟨y, hy, hyn, _⟩ := asc_get ha hk
    have := MD.at_ok hg (i := x) (k := y) (by omega) (by omega)
    unfold subN
    rw [hx, hy, hr]
    exact this
  generalize m.at n = M at *
  cases ha : ascB n l
  · rw [subM_no (by rw [hk, hr, ha]; rfl)]
    refine txg W_impl_Submatrix ke_impl_Submatrix 0 [] [] [] rfl (by kernel_rfl) ?_
    simp -dsimp (disch := first | assumption | (refine OM.mk ?_; first | omega | (simp only [List.length_map, List.length_set, List.length_take] <;> omega)) | (simp -dsimp only [go_sem]; done) | fail) only [go_sem, ↓reduceIte, Nat.reduceEqDiff, Nat.reduceAdd, Nat.reduceSub, Nat.reduceMul, Nat.reduceLT, Nat.reduceLeDiff, reduceCtorEq, a_eq, a_neq, a_cast0, a_pred, a_app1, a_zero, Int.reduceToNat]
    refine callB' q (by simp [V.fl2, V.fl1, rdC]) (by simp -dsimp only [go_sem, ↓reduceIte, Nat.reduceEqDiff, Nat.reduceAdd, Nat.reduceSub, Nat.reduceMul, Nat.reduceLT, Nat.reduceLeDiff, reduceCtorEq,  List.forall_mem_cons, List.not_mem_nil, false_implies, implies_true]) ?_
    simp -dsimp (disch := first | assumption | (refine OM.mk ?_; first | omega | (simp only [List.length_map, List.length_set, List.length_take] <;> omega)) | (simp -dsimp only [go_sem]; done) | fail) only [go_sem, ↓reduceIte, Nat.reduceEqDiff, Nat.reduceAdd, Nat.reduceSub, Nat.reduceMul, Nat.reduceLT, Nat.reduceLeDiff, reduceCtorEq, a_eq, a_neq, a_cast0, a_pred, a_app1, a_zero, Int.reduceToNat]
    refine loopJ (fun k : Nat => k ≤ l.length ∧ (List.range k).all (ascP n l) = true) (fun k => ⟨[(4, .ref 0 0), (6, .ref 1 0), (8, I (if k = 0 then -1 else l.getD (k - 1) 0)), (19, sI g l), (20, I l.length), (21, I k)], [⟨.own, T_impl_Matrix, [I 0, I 0, .emp]⟩, ⟨.own, T_impl_grid, [I n, I n, .sl .b 1 n (gC .b .b n n M)]⟩]⟩) (fun k => l.length - k) 0 ⟨by omega, rfl⟩ ?_ ?_
    · exact StI.ren [some 2, some 3] [[], []] (by simp -dsimp only [go_sem, ↓reduceIte, Nat.reduceEqDiff, Nat.reduceAdd, Nat.reduceSub, Nat.reduceMul, Nat.reduceLT, Nat.reduceLeDiff, reduceCtorEq]) (by decide) (by simp -dsimp (disch := first | assumption | (refine OM.mk ?_; first | omega | (simp only [List.length_map, List.length_set, List.length_take] <;> omega)) | (simp -dsimp only [go_sem]; done) | fail) only [go_sem, ↓reduceIte, Nat.reduceEqDiff, Nat.reduceAdd, Nat.reduceSub, Nat.reduceMul, Nat.reduceLT, Nat.reduceLeDiff, reduceCtorEq, a_eq, a_neq, a_cast0, a_pred, a_app1, a_zero, Int.reduceToNat]) (by simp -dsimp (disch := first | assumption | (refine OM.mk ?_; first | omega | (simp only [List.length_map, List.length_set, List.length_take] <;> omega)) | (simp -dsimp only [go_sem]; done) | fail) only [go_sem, ↓reduceIte, Nat.reduceEqDiff, Nat.reduceAdd, Nat.reduceSub, Nat.reduceMul, Nat.reduceLT, Nat.reduceLeDiff, reduceCtorEq, a_eq, a_neq, a_cast0, a_pred, a_app1, a_zero, Int.reduceToNat])
    rintro k ⟨hk, hp⟩
    by_cases h : k < l.length
    · have e := last_asc hp rfl
      generalize (if k = 0 then (-1 : Int) else l.getD (k - 1) 0) = last at *
      by_cases a1 : l.getD k 0 ≤ last
      · simp -dsimp (disch := first | assumption | (refine OM.mk ?_; first | omega | (simp only [List.length_map, List.length_set, List.length_take] <;> omega)) | (simp -dsimp only [go_sem]; done) | fail) only [go_sem, ↓reduceIte, Nat.reduceEqDiff, Nat.reduceAdd, Nat.reduceSub, Nat.reduceMul, Nat.reduceLT, Nat.reduceLeDiff, reduceCtorEq, a_eq, a_neq, a_cast0, a_pred, a_app1, a_zero, Int.reduceToNat]
        exact RtG.ren [none] [[]] trivial (by decide) (by simp -dsimp (disch := first | assumption | (refine OM.mk ?_; first | omega | (simp only [List.length_map, List.length_set, List.length_take] <;> omega)) | (simp -dsimp only [go_sem]; done) | fail) only [go_sem, ↓reduceIte, Nat.reduceEqDiff, Nat.reduceAdd, Nat.reduceSub, Nat.reduceMul, Nat.reduceLT, Nat.reduceLeDiff, reduceCtorEq, a_eq, a_neq, a_cast0, a_pred, a_app1, a_zero, Int.reduceToNat]) (by simp -dsimp (disch := first | assumption | (refine OM.mk ?_; first | omega | (simp only [List.length_map, List.length_set, List.length_take] <;> omega)) | (simp -dsimp only [go_sem]; done) | fail) only [go_sem, ↓reduceIte, Nat.reduceEqDiff, Nat.reduceAdd, Nat.reduceSub, Nat.reduceMul, Nat.reduceLT, Nat.reduceLeDiff, reduceCtorEq, a_eq, a_neq, a_cast0, a_pred, a_app1, a_zero, Int.reduceToNat])
      · by_cases a2 : (n : Int) ≤ l.getD k 0
        · simp -dsimp (disch := first | assumption | (refine OM.mk ?_; first | omega | (simp only [List.length_map, List.length_set, List.length_take] <;> omega)) | (simp -dsimp only [go_sem]; done) | fail) only [go_sem, ↓reduceIte, Nat.reduceEqDiff, Nat.reduceAdd, Nat.reduceSub, Nat.reduceMul, Nat.reduceLT, Nat.reduceLeDiff, reduceCtorEq, a_eq, a_neq, a_cast0, a_pred, a_app1, a_zero, Int.reduceToNat]
          exact RtG.ren [none] [[]] trivial (by decide) (by simp -dsimp (disch := first | assumption | (refine OM.mk ?_; first | omega | (simp only [List.length_map, List.length_set, List.length_take] <;> omega)) | (simp -dsimp only [go_sem]; done) | fail) only [go_sem, ↓reduceIte, Nat.reduceEqDiff, Nat.reduceAdd, Nat.reduceSub, Nat.reduceMul, Nat.reduceLT, Nat.reduceLeDiff, reduceCtorEq, a_eq, a_neq, a_cast0, a_pred, a_app1, a_zero, Int.reduceToNat]) (by simp -dsimp (disch := first | assumption | (refine OM.mk ?_; first | omega | (simp only [List.length_map, List.length_set, List.length_take] <;> omega)) | (simp -dsimp only [go_sem]; done) | fail) only [go_sem, ↓reduceIte, Nat.reduceEqDiff, Nat.reduceAdd, Nat.reduceSub, Nat.reduceMul, Nat.reduceLT, Nat.reduceLeDiff, reduceCtorEq, a_eq, a_neq, a_cast0, a_pred, a_app1, a_zero, Int.reduceToNat])
        · rw [decide_eq_false a1, decide_eq_false a2] at e
          simp -dsimp (disch := first | assumption | (refine OM.mk ?_; first | omega | (simp only [List.length_map, List.length_set, List.length_take] <;> omega)) | (simp -dsimp only [go_sem]; done) | fail) only [go_sem, ↓reduceIte, Nat.reduceEqDiff, Nat.reduceAdd, Nat.reduceSub, Nat.reduceMul, Nat.reduceLT, Nat.reduceLeDiff, reduceCtorEq, a_eq, a_neq, a_cast0, a_pred, a_app1, a_zero, Int.reduceToNat]
          exact ⟨k + 1, ⟨by omega, rng_step hp e⟩, by omega, StI.ren [some 0, some 1] [[], []] (by simp -dsimp only [go_sem, ↓reduceIte, Nat.reduceEqDiff, Nat.reduceAdd, Nat.reduceSub, Nat.reduceMul, Nat.reduceLT, Nat.reduceLeDiff, reduceCtorEq]) (by decide) (by simp -dsimp (disch := first | assumption | (refine OM.mk ?_; first | omega | (simp only [List.length_map, List.length_set, List.length_take] <;> omega)) | (simp -dsimp only [go_sem]; done) | fail) only [go_sem, ↓reduceIte, Nat.reduceEqDiff, Nat.reduceAdd, Nat.reduceSub, Nat.reduceMul, Nat.reduceLT, Nat.reduceLeDiff, reduceCtorEq, a_eq, a_neq, a_cast0, a_pred, a_app1, a_zero, Int.reduceToNat]) (by simp -dsimp (disch := first | assumption | (refine OM.mk ?_; first | omega | (simp only [List.length_map, List.length_set, List.length_take] <;> omega)) | (simp -dsimp only [go_sem]; done) | fail) only [go_sem, ↓reduceIte, Nat.reduceEqDiff, Nat.reduceAdd, Nat.reduceSub, Nat.reduceMul, Nat.reduceLT, Nat.reduceLeDiff, reduceCtorEq, a_eq, a_neq, a_cast0, a_pred, a_app1, a_zero, Int.reduceToNat,  Nat.add_one_ne_zero, if_false, Nat.add_sub_cancel])⟩
    · exfalso
      obtain rfl : k = l.length := by omega
      unfold ascB at ha
      rw [ha] at hp
      exact absurd hp (by decide)
  · have hll := asc_len ha
    rw [subM_ok (by rw [hk, hr, ha]; rfl)]
    refine txg W_impl_Submatrix ke_impl_Submatrix 0 [] [12] [] rfl (by kernel_rfl) ?_
    simp -dsimp (disch := first | assumption | (refine OM.mk ?_; first | omega | (simp only [List.length_map, List.length_set, List.length_take] <;> omega)) | (simp -dsimp only [go_sem]; done) | fail) only [go_sem, ↓reduceIte, Nat.reduceEqDiff, Nat.reduceAdd, Nat.reduceSub, Nat.reduceMul, Nat.reduceLT, Nat.reduceLeDiff, reduceCtorEq, a_eq, a_neq, a_cast0, a_pred, a_app1, a_zero, Int.reduceToNat]
    refine callB' q (by simp [V.fl2, V.fl1, rdC]) (by simp -dsimp only [go_sem, ↓reduceIte, Nat.reduceEqDiff, Nat.reduceAdd, Nat.reduceSub, Nat.reduceMul, Nat.reduceLT, Nat.reduceLeDiff, reduceCtorEq,  List.forall_mem_cons, List.not_mem_nil, false_implies, implies_true]) ?_
    simp -dsimp (disch := first | assumption | (refine OM.mk ?_; first | omega | (simp only [List.length_map, List.length_set, List.length_take] <;> omega)) | (simp -dsimp only [go_sem]; done) | fail) only [go_sem, ↓reduceIte, Nat.reduceEqDiff, Nat.reduceAdd, Nat.reduceSub, Nat.reduceMul, Nat.reduceLT, Nat.reduceLeDiff, reduceCtorEq, a_eq, a_neq, a_cast0, a_pred, a_app1, a_zero, Int.reduceToNat]
    refine loopJ (fun k : Nat => k ≤ l.length) (fun k => ⟨[(3, .ref 0 0), (4, .ref 1 0), (6, .ref 2 0), (8, I (if k = 0 then -1 else l.getD (k - 1) 0)), (19, sI g l), (20, I l.length), (21, I k)], [⟨.own, T_sl_int, [sI g l]⟩, ⟨.own, T_impl_Matrix, [I 0, I 0, .emp]⟩, ⟨.own, T_impl_grid, [I n, I n, .sl .b 1 n (gC .b .b n n M)]⟩]⟩) (fun k => l.length - k) 0 (by omega) ?_ ?_
    · exact StI.ren [some 1, some 2, some 3] [[], [], []] (by simp -dsimp only [go_sem, ↓reduceIte, Nat.reduceEqDiff, Nat.reduceAdd, Nat.reduceSub, Nat.reduceMul, Nat.reduceLT, Nat.reduceLeDiff, reduceCtorEq]) (by decide) (by simp -dsimp (disch := first | assumption | (refine OM.mk ?_; first | omega | (simp only [List.length_map, List.length_set, List.length_take] <;> omega)) | (simp -dsimp only [go_sem]; done) | fail) only [go_sem, ↓reduceIte, Nat.reduceEqDiff, Nat.reduceAdd, Nat.reduceSub, Nat.reduceMul, Nat.reduceLT, Nat.reduceLeDiff, reduceCtorEq, a_eq, a_neq, a_cast0, a_pred, a_app1, a_zero, Int.reduceToNat]) (by simp -dsimp (disch := first | assumption | (refine OM.mk ?_; first | omega | (simp only [List.length_map, List.length_set, List.length_take] <;> omega)) | (simp -dsimp only [go_sem]; done) | fail) only [go_sem, ↓reduceIte, Nat.reduceEqDiff, Nat.reduceAdd, Nat.reduceSub, Nat.reduceMul, Nat.reduceLT, Nat.reduceLeDiff, reduceCtorEq, a_eq, a_neq, a_cast0, a_pred, a_app1, a_zero, Int.reduceToNat])
    intro k hk
    by_cases h : k < l.length
    · have hp : (List.range k).all (ascP n l) = true := by
        rw [List.all_eq_true]; intro j hj; exact rng_get ha (by have := List.mem_range.1 hj; omega)
      have e := last_asc hp rfl
      rw [rng_get ha h] at e
      generalize (if k = 0 then (-1 : Int) else l.getD (k - 1) 0) = last at *
      have e' := e.symm
      simp only [Bool.and_eq_true, Bool.not_eq_true', decide_eq_false_iff_not] at e'
      obtain ⟨a1, a2⟩ := e'
      simp -dsimp (disch := first | assumption | (refine OM.mk ?_; first | omega | (simp only [List.length_map, List.length_set, List.length_take] <;> omega)) | (simp -dsimp only [go_sem]; done) | fail) only [go_sem, ↓reduceIte, Nat.reduceEqDiff, Nat.reduceAdd, Nat.reduceSub, Nat.reduceMul, Nat.reduceLT, Nat.reduceLeDiff, reduceCtorEq, a_eq, a_neq, a_cast0, a_pred, a_app1, a_zero, Int.reduceToNat]
      exact ⟨k + 1, by omega, by omega, StI.ren [some 0, some 1, some 2] [[], [], []] (by simp -dsimp only [go_sem, ↓reduceIte, Nat.reduceEqDiff, Nat.reduceAdd, Nat.reduceSub, Nat.reduceMul, Nat.reduceLT, Nat.reduceLeDiff, reduceCtorEq]) (by decide) (by simp -dsimp (disch := first | assumption | (refine OM.mk ?_; first | omega | (simp only [List.length_map, List.length_set, List.length_take] <;> omega)) | (simp -dsimp only [go_sem]; done) | fail) only [go_sem, ↓reduceIte, Nat.reduceEqDiff, Nat.reduceAdd, Nat.reduceSub, Nat.reduceMul, Nat.reduceLT, Nat.reduceLeDiff, reduceCtorEq, a_eq, a_neq, a_cast0, a_pred, a_app1, a_zero, Int.reduceToNat]) (by simp -dsimp (disch := first | assumption | (refine OM.mk ?_; first | omega | (simp only [List.length_map, List.length_set, List.length_take] <;> omega)) | (simp -dsimp only [go_sem]; done) | fail) only [go_sem, ↓reduceIte, Nat.reduceEqDiff, Nat.reduceAdd, Nat.reduceSub, Nat.reduceMul, Nat.reduceLT, Nat.reduceLeDiff, reduceCtorEq, a_eq, a_neq, a_cast0, a_pred, a_app1, a_zero, Int.reduceToNat,  Nat.add_one_ne_zero, if_false, Nat.add_sub_cancel])⟩
    · obtain rfl : k = l.length := by omega
      simp -dsimp (disch := first | assumption | (refine OM.mk ?_; first | omega | (simp only [List.length_map, List.length_set, List.length_take] <;> omega)) | (simp -dsimp only [go_sem]; done) | fail) only [go_sem, ↓reduceIte, Nat.reduceEqDiff, Nat.reduceAdd, Nat.reduceSub, Nat.reduceMul, Nat.reduceLT, Nat.reduceLeDiff, reduceCtorEq, a_eq, a_neq, a_cast0, a_pred, a_app1, a_zero, Int.reduceToNat]
      refine ⟨⟨[(3, .ptr .b [sI .b l]), (4, .ref 0 0), (6, .ptr .b [I n, I n, .sl .b 1 n (gC .b .b n n M)])], [⟨.own, T_impl_Matrix, [I 0, I 0, .emp]⟩]⟩, (StI.shareb 0 (cs' := [sI .b l]) rfl (by simp -dsimp (disch := first | assumption | (refine OM.mk ?_; first | omega | (simp only [List.length_map, List.length_set, List.length_take] <;> omega)) | (simp -dsimp only [go_sem]; done) | fail) only [go_sem, ↓reduceIte, Nat.reduceEqDiff, Nat.reduceAdd, Nat.reduceSub, Nat.reduceMul, Nat.reduceLT, Nat.reduceLeDiff, reduceCtorEq, a_eq, a_neq, a_cast0, a_pred, a_app1, a_zero, Int.reduceToNat]) (by simp -dsimp (disch := first | assumption | (refine OM.mk ?_; first | omega | (simp only [List.length_map, List.length_set, List.length_take] <;> omega)) | (simp -dsimp only [go_sem]; done) | fail) only [go_sem, ↓reduceIte, Nat.reduceEqDiff, Nat.reduceAdd, Nat.reduceSub, Nat.reduceMul, Nat.reduceLT, Nat.reduceLeDiff, reduceCtorEq, a_eq, a_neq, a_cast0, a_pred, a_app1, a_zero, Int.reduceToNat]) (by simp -dsimp (disch := first | assumption | (refine OM.mk ?_; first | omega | (simp only [List.length_map, List.length_set, List.length_take] <;> omega)) | (simp -dsimp only [go_sem]; done) | fail) only [go_sem, ↓reduceIte, Nat.reduceEqDiff, Nat.reduceAdd, Nat.reduceSub, Nat.reduceMul, Nat.reduceLT, Nat.reduceLeDiff, reduceCtorEq, a_eq, a_neq, a_cast0, a_pred, a_app1, a_zero, Int.reduceToNat])).trans ((StI.shareb 2 (cs' := [I n, I n, .sl .b 1 n (gC .b .b n n M)]) rfl (by simp -dsimp (disch := first | assumption | (refine OM.mk ?_; first | omega | (simp only [List.length_map, List.length_set, List.length_take] <;> omega)) | (simp -dsimp only [go_sem]; done) | fail) only [go_sem, ↓reduceIte, Nat.reduceEqDiff, Nat.reduceAdd, Nat.reduceSub, Nat.reduceMul, Nat.reduceLT, Nat.reduceLeDiff, reduceCtorEq, a_eq, a_neq, a_cast0, a_pred, a_app1, a_zero, Int.reduceToNat]) (by simp -dsimp (disch := first | assumption | (refine OM.mk ?_; first | omega | (simp only [List.length_map, List.length_set, List.length_take] <;> omega)) | (simp -dsimp only [go_sem]; done) | fail) only [go_sem, ↓reduceIte, Nat.reduceEqDiff, Nat.reduceAdd, Nat.reduceSub, Nat.reduceMul, Nat.reduceLT, Nat.reduceLeDiff, reduceCtorEq, a_eq, a_neq, a_cast0, a_pred, a_app1, a_zero, Int.reduceToNat]) (by simp -dsimp (disch := first | assumption | (refine OM.mk ?_; first | omega | (simp only [List.length_map, List.length_set, List.length_take] <;> omega)) | (simp -dsimp only [go_sem]; done) | fail) only [go_sem, ↓reduceIte, Nat.reduceEqDiff, Nat.reduceAdd, Nat.reduceSub, Nat.reduceMul, Nat.reduceLT, Nat.reduceLeDiff, reduceCtorEq, a_eq, a_neq, a_cast0, a_pred, a_app1, a_zero, Int.reduceToNat])).trans (StI.ren [some 1] [[]] (by simp -dsimp only [go_sem, ↓reduceIte, Nat.reduceEqDiff, Nat.reduceAdd, Nat.reduceSub, Nat.reduceMul, Nat.reduceLT, Nat.reduceLeDiff, reduceCtorEq]) (by decide) (by simp -dsimp (disch := first | assumption | (refine OM.mk ?_; first | omega | (simp only [List.length_map, List.length_set, List.length_take] <;> omega)) | (simp -dsimp only [go_sem]; done) | fail) only [go_sem, ↓reduceIte, Nat.reduceEqDiff, Nat.reduceAdd, Nat.reduceSub, Nat.reduceMul, Nat.reduceLT, Nat.reduceLeDiff, reduceCtorEq, a_eq, a_neq, a_cast0, a_pred, a_app1, a_zero, Int.reduceToNat]) (by simp -dsimp (disch := first | assumption | (refine OM.mk ?_; first | omega | (simp only [List.length_map, List.length_set, List.length_take] <;> omega)) | (simp -dsimp only [go_sem]; done) | fail) only [go_sem, ↓reduceIte, Nat.reduceEqDiff, Nat.reduceAdd, Nat.reduceSub, Nat.reduceMul, Nat.reduceLT, Nat.reduceLeDiff, reduceCtorEq, a_eq, a_neq, a_cast0, a_pred, a_app1, a_zero, Int.reduceToNat]))), ?_⟩
      simp -dsimp (disch := first | assumption | (refine OM.mk ?_; first | omega | (simp only [List.length_map, List.length_set, List.length_take] <;> omega)) | (simp -dsimp only [go_sem]; done) | fail) only [go_sem, ↓reduceIte, Nat.reduceEqDiff, Nat.reduceAdd, Nat.reduceSub, Nat.reduceMul, Nat.reduceLT, Nat.reduceLeDiff, reduceCtorEq, a_eq, a_neq, a_cast0, a_pred, a_app1, a_zero, Int.reduceToNat]
      refine callB' (newGrid_b l.length l.length (by omega) (by omega) _ [] [.ptr .b [I n, I n, .sl .b 1 n (gC .b .b n n M)], .ptr .b [sI .b l]] (by simp [V.fl1]) (fun i k => M (l.getD i 0).toNat (l.getD k 0).toNat) .b flb (fun i k hi hk => sub1_b n h24 M l hll ha i k hi hk)) ?_ (by simp -dsimp only [go_sem, ↓reduceIte, Nat.reduceEqDiff, Nat.reduceAdd, Nat.reduceSub, Nat.reduceMul, Nat.reduceLT, Nat.reduceLeDiff, reduceCtorEq,  List.forall_mem_cons, List.not_mem_nil, false_implies, implies_true]) ?_
      · simp [V.fl2, V.fl1]
      have hq := closed_g l.length l.length (by omega) (by omega) .b flb (fun i k => M (l.getD i 0).toNat (l.getD k 0).toNat)
      rw [show cloQ l.length l.length (fun i k => M (l.getD i 0).toNat (l.getD k 0).toNat) = (⟨l.length, l.length, gridR l.length l.length (subN m l)⟩, true) by
        unfold cloQ; rw [if_pos (gridL_all fun i k hi hk => (hM i k hi hk ha).1), gridL_qd fun i k hi hk => (hM i k hi hk ha).2]] at hq
      simp -dsimp (disch := first | assumption | (refine OM.mk ?_; first | omega | (simp only [List.length_map, List.length_set, List.length_take] <;> omega)) | (simp -dsimp only [go_sem]; done) | fail) only [go_sem, ↓reduceIte, Nat.reduceEqDiff, Nat.reduceAdd, Nat.reduceSub, Nat.reduceMul, Nat.reduceLT, Nat.reduceLeDiff, reduceCtorEq, a_eq, a_neq, a_cast0, a_pred, a_app1, a_zero, Int.reduceToNat]
      refine callO' hq (by simp -dsimp (disch := first | assumption | (simp -dsimp only [go_sem]; done) | fail) only [go_sem]) (by simp -dsimp only [go_sem, ↓reduceIte, Nat.reduceEqDiff, Nat.reduceAdd, Nat.reduceSub, Nat.reduceMul, Nat.reduceLT, Nat.reduceLeDiff, reduceCtorEq,  List.forall_mem_cons, List.not_mem_nil, false_implies, implies_true]) ?_
      simp -dsimp (disch := first | assumption | (refine OM.mk ?_; first | omega | (simp only [List.length_map, List.length_set, List.length_take] <;> omega)) | (simp -dsimp only [go_sem]; done) | fail) only [go_sem, ↓reduceIte, Nat.reduceEqDiff, Nat.reduceAdd, Nat.reduceSub, Nat.reduceMul, Nat.reduceLT, Nat.reduceLeDiff, reduceCtorEq, a_eq, a_neq, a_cast0, a_pred, a_app1, a_zero, Int.reduceToNat]
      exact RtG.nothing [some 1] (by simp -dsimp only [go_sem, ↓reduceIte, Nat.reduceEqDiff, Nat.reduceAdd, Nat.reduceSub, Nat.reduceMul, Nat.reduceLT, Nat.reduceLeDiff, reduceCtorEq]) (by decide) (by simp -dsimp (disch := first | assumption | (refine OM.mk ?_; first | omega | (simp only [List.length_map, List.length_set, List.length_take] <;> omega)) | (simp -dsimp only [go_sem]; done) | fail) only [go_sem, ↓reduceIte, Nat.reduceEqDiff, Nat.reduceAdd, Nat.reduceSub, Nat.reduceMul, Nat.reduceLT, Nat.reduceLeDiff, reduceCtorEq, a_eq, a_neq, a_cast0, a_pred, a_app1, a_zero, Int.reduceToNat,  List.map_cons, List.map_nil]) (by simp -dsimp (disch := first | assumption | (refine OM.mk ?_; first | omega | (simp only [List.length_map, List.length_set, List.length_take] <;> omega)) | (simp -dsimp only [go_sem]; done) | fail) only [go_sem, ↓reduceIte, Nat.reduceEqDiff, Nat.reduceAdd, Nat.reduceSub, Nat.reduceMul, Nat.reduceLT, Nat.reduceLeDiff, reduceCtorEq, a_eq, a_neq, a_cast0, a_pred, a_app1, a_zero, Int.reduceToNat])
end Go.Proofs.Ytekhgkpnhenecaa
