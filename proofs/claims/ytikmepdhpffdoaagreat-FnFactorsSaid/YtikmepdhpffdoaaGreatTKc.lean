/- part of the proof -/
import Derived.Test.YtikmepdhpffdoaaGreatTXd
namespace Go.Proofs.YtikmepdhpffdoaaGreat
open Go Go.RowKit
set_option maxRecDepth 100000
set_option maxHeartbeats 4000000
set_option linter.unusedVariables false
set_option linter.unusedSimpArgs false
def ascP (n : Int) (l : List Int) (i : Nat) : Bool := decide (0 ≤ l.getD i 0 ∧ l.getD i 0 ≤ n - 1) && (decide (i = 0) || decide (l.getD (i - 1) 0 < l.getD i 0))
def ascB (n : Int) (l : List Int) : Bool := (List.range l.length).all (ascP n l)
theorem rng_step {p : Nat → Bool} {k : Nat} (h : (List.range k).all p = true) (h2 : p k = true) : (List.range (k + 1)).all p = true := by
  rw [List.range_succ, List.all_append, h]; simp [h2]
theorem rng_get {p : Nat → Bool} {k n : Nat} (h : (List.range n).all p = true) (hk : k < n) : p k = true := by
  rw [List.all_eq_true] at h; exact h k (List.mem_range.2 hk)
theorem asc_get {n : Int} {l : List Int} (h : ascB n l = true) {i : Nat} (hi : i < l.length) : ∃ x : Nat, l.getD i 0 = x ∧ (x : Int) < n ∧ i ≤ x := by
  induction i with
  | zero =>
    have q := rng_get h hi
    unfold ascP at q
    simp only [Bool.and_eq_true, decide_eq_true_eq] at q
    exact ⟨(l.getD 0 0).toNat, by omega, by omega, by omega⟩
  | succ i ih =>
    obtain ⟨y, hy, hyn, hiy⟩ := ih (by omega)
    have q := rng_get h hi
    unfold ascP at q
    simp only [Bool.and_eq_true, Bool.or_eq_true, decide_eq_true_eq] at q
    rw [show i + 1 - 1 = i from rfl, hy] at q
    exact ⟨(l.getD (i + 1) 0).toNat, by omega, by omega, by omega⟩
theorem asc_len {n : Nat} {l : List Int} (h : ascB n l = true) : l.length ≤ n := by
  rcases Nat.eq_zero_or_pos l.length with h0 | h0
  · omega
  · obtain ⟨x, _, h1, h2⟩ := asc_get h (i := l.length - 1) (by omega)
    omega
def subN (m : MD) (l : List Int) (i k : Nat) : RD := m.cells.getD ((l.getD i 0).toNat * m.rows.toNat + (l.getD k 0).toNat) RD.zero
def subM (m : MD) (l : List Int) : MD × Bool := if (m.ok && decide (m.rows = m.cols) && ascB m.rows l) = true then (⟨l.length, l.length, gridR l.length l.length (subN m l)⟩, true) else (MD.zero, false)
theorem subM_no {m : MD} {l : List Int} (h : (m.ok && decide (m.rows = m.cols) && ascB m.rows l) = false) : subM m l = (MD.zero, false) := by unfold subM; rw [h]; rfl
theorem subM_ok {m : MD} {l : List Int} (h : (m.ok && decide (m.rows = m.cols) && ascB m.rows l) = true) : subM m l = (⟨l.length, l.length, gridR l.length l.length (subN m l)⟩, true) := by unfold subM; rw [if_pos h]
end Go.Proofs.YtikmepdhpffdoaaGreat
namespace Go.Proofs.YtikmepdhpffdoaaGreat
open Go Go.RowKit
set_option maxRecDepth 100000
set_option maxHeartbeats 4000000
set_option linter.unusedVariables false
set_option linter.unusedSimpArgs false
theorem sub1_b (n : Nat) (hn : n ≤ 24) (M : Nat → Nat → FQ) (l : List Int) (hl : l.length ≤ n) (ha : ascB n l = true) (i k : Nat) (hi : i < l.length) (hk : k < l.length) :
    PB PP F_impl_Submatrix_1 [I i, I k, .ptr .b [I n, I n, .sl .b 1 n (gC .b .b n n M)], .ptr .b [sI .b l]] (pQ .b (M (l.getD i 0).toNat (l.getD k 0).toNat)) [] := by
  obtain ⟨x, hx, hxn, _⟩ := asc_get ha hi
  obtain ⟨y, hy, hyn, _⟩ := asc_get ha hk
  refine txb W_impl_Submatrix_1 ke_impl_Submatrix_1 [] [] [] (by kernel_rfl) ?_
  simp -dsimp(disch:=first|exact om|fail)only[go_sem,↓reduceIte,Nat.reduceEqDiff,Nat.reduceAdd,Nat.reduceSub,Nat.reduceMul,Nat.reduceLT,Nat.reduceLeDiff,reduceCtorEq,a_eq,a_neq,a_cast0,a_pred,a_app1,a_zero,Int.reduceToNat, hx, hy]
  exact RtB.nothing [] (by decide) trivial lW
theorem last_asc {n : Nat} {l : List Int} {k : Nat} (hp : (List.range k).all (ascP n l) = true) {last : Int} (e : last = if k = 0 then -1 else l.getD (k - 1) 0) : ascP n l k = (!(decide (l.getD k 0 ≤ last)) && !(decide ((n : Int) ≤ l.getD k 0))) := by
  unfold ascP
  rw [Bool.eq_iff_iff]
  cases k with
  | zero =>
    rw [if_pos rfl] at e
    subst e
    simp
    omega
  | succ j =>
    have q := rng_get hp (Nat.lt_succ_self j)
    unfold ascP at q
    rw [if_neg (by omega), Nat.add_sub_cancel] at e
    rw [Nat.add_sub_cancel]
    simp only [Bool.and_eq_true, Bool.or_eq_true, Bool.not_eq_true', decide_eq_true_eq, decide_eq_false_iff_not] at q ⊢
    omega
theorem impl_Submatrix_g (m : MD) (f g : Fl) (hf : f ≠ .u) (hg0 : g ≠ .u) (l : List Int) (hs : smallL m.cells) (hl : l.length ≤ 1048576) : GC PP F_impl_Submatrix [mtV f m, sI g l] [] (moG (subM m l)) (mtH (subM m l).1) := by
  cases hk : (m.ok && decide (m.rows = m.cols))
  · obtain ⟨r, c, M, q⟩ := square_no m f hf hk hs
    rw [subM_no (by rw [hk]; rfl)]
    refine txg W_impl_Submatrix ke_impl_Submatrix 0 [] [] [] rfl (by kernel_rfl) ?_
    simp -dsimp(disch:=first|exact om|fail)only[go_sem,↓reduceIte,Nat.reduceEqDiff,Nat.reduceAdd,Nat.reduceSub,Nat.reduceMul,Nat.reduceLT,Nat.reduceLeDiff,reduceCtorEq,a_eq,a_neq,a_cast0,a_pred,a_app1,a_zero,Int.reduceToNat]
    refine callB' q lB lF ?_
    simp -dsimp(disch:=first|exact om|fail)only[go_sem,↓reduceIte,Nat.reduceEqDiff,Nat.reduceAdd,Nat.reduceSub,Nat.reduceMul,Nat.reduceLT,Nat.reduceLeDiff,reduceCtorEq,a_eq,a_neq,a_cast0,a_pred,a_app1,a_zero,Int.reduceToNat]
    exact RtG.ren [none] [[]] trivial (by decide) lW lW
  have hk' := hk
  simp only [Bool.and_eq_true, decide_eq_true_eq] at hk'
  obtain ⟨ho, hk'⟩ := hk'
  obtain ⟨n, c, hg⟩ := MD.ok_good ho
  obtain rfl : n = c := by have := hg.er; have := hg.ec; omega
  have hr := hg.er
  have hc := hg.ec
  have h24 := hg.r24
  have q := square_ok m f hf n hg hs
  have hM : ∀ i k, i < l.length → k < l.length → ascB n l = true → (m.at n (l.getD i 0).toNat (l.getD k 0).toNat).good = true ∧ qd (m.at n (l.getD i 0).toNat (l.getD k 0).toNat) = subN m l i k := by
    intro i k hi hk ha
    obtain ⟨x, hx, hxn, _⟩ := asc_get ha hi
    obtain ⟨y, hy, hyn, _⟩ := asc_get ha hk
    have := MD.at_ok hg (i := x) (k := y) (by omega) (by omega)
    unfold subN
    rw [hx, hy, hr]
    exact this
  generalize m.at n = M at *
  cases ha : ascB n l
  · rw [subM_no (by rw [hk, hr, ha]; rfl)]
    refine txg W_impl_Submatrix ke_impl_Submatrix 0 [] [] [] rfl (by kernel_rfl) ?_
    simp -dsimp(disch:=first|exact om|fail)only[go_sem,↓reduceIte,Nat.reduceEqDiff,Nat.reduceAdd,Nat.reduceSub,Nat.reduceMul,Nat.reduceLT,Nat.reduceLeDiff,reduceCtorEq,a_eq,a_neq,a_cast0,a_pred,a_app1,a_zero,Int.reduceToNat]
    refine callB' q lB lF ?_
    simp -dsimp(disch:=first|exact om|fail)only[go_sem,↓reduceIte,Nat.reduceEqDiff,Nat.reduceAdd,Nat.reduceSub,Nat.reduceMul,Nat.reduceLT,Nat.reduceLeDiff,reduceCtorEq,a_eq,a_neq,a_cast0,a_pred,a_app1,a_zero,Int.reduceToNat]
    refine loopJ (fun k : Nat => k ≤ l.length ∧ (List.range k).all (ascP n l) = true) (fun k => ⟨[(4, .ref 0 0), (6, .ref 1 0), (8, I (if k = 0 then -1 else l.getD (k - 1) 0)), (19, sI g l), (20, I l.length), (21, I k)], [⟨.own, T_impl_Matrix, [I 0, I 0, .emp]⟩, ⟨.own, T_impl_grid, [I n, I n, .sl .b 1 n (gC .b .b n n M)]⟩]⟩) (fun k => l.length - k) 0 ⟨by omega, rfl⟩ ?_ ?_
    · exact StI.ren [some 2, some 3] [[], []] lE (by decide) lW lW
    rintro k ⟨hk, hp⟩
    by_cases h : k < l.length
    · have e := last_asc hp rfl
      generalize (if k = 0 then (-1 : Int) else l.getD (k - 1) 0) = last at *
      by_cases a1 : l.getD k 0 ≤ last
      · simp -dsimp(disch:=first|exact om|fail)only[go_sem,↓reduceIte,Nat.reduceEqDiff,Nat.reduceAdd,Nat.reduceSub,Nat.reduceMul,Nat.reduceLT,Nat.reduceLeDiff,reduceCtorEq,a_eq,a_neq,a_cast0,a_pred,a_app1,a_zero,Int.reduceToNat]
        exact RtG.ren [none] [[]] trivial (by decide) lW lW
      · by_cases a2 : (n : Int) ≤ l.getD k 0
        · simp -dsimp(disch:=first|exact om|fail)only[go_sem,↓reduceIte,Nat.reduceEqDiff,Nat.reduceAdd,Nat.reduceSub,Nat.reduceMul,Nat.reduceLT,Nat.reduceLeDiff,reduceCtorEq,a_eq,a_neq,a_cast0,a_pred,a_app1,a_zero,Int.reduceToNat]
          exact RtG.ren [none] [[]] trivial (by decide) lW lW
        · rw [decide_eq_false a1, decide_eq_false a2] at e
          simp -dsimp(disch:=first|exact om|fail)only[go_sem,↓reduceIte,Nat.reduceEqDiff,Nat.reduceAdd,Nat.reduceSub,Nat.reduceMul,Nat.reduceLT,Nat.reduceLeDiff,reduceCtorEq,a_eq,a_neq,a_cast0,a_pred,a_app1,a_zero,Int.reduceToNat]
          exact ⟨k + 1, ⟨by omega, rng_step hp e⟩, by omega, StI.ren [some 0, some 1] [[], []] lE (by decide) lW (by simp -dsimp(disch:=first|exact om|fail)only[go_sem,↓reduceIte,Nat.reduceEqDiff,Nat.reduceAdd,Nat.reduceSub,Nat.reduceMul,Nat.reduceLT,Nat.reduceLeDiff,reduceCtorEq,a_eq,a_neq,a_cast0,a_pred,a_app1,a_zero,Int.reduceToNat, Nat.add_one_ne_zero, if_false, Nat.add_sub_cancel])⟩
    · exfalso
      obtain rfl : k = l.length := by omega
      unfold ascB at ha
      rw [ha] at hp
      exact absurd hp (by decide)
  · have hll := asc_len ha
    rw [subM_ok (by rw [hk, hr, ha]; rfl)]
    refine txg W_impl_Submatrix ke_impl_Submatrix 0 [] [12] [] rfl (by kernel_rfl) ?_
    simp -dsimp(disch:=first|exact om|fail)only[go_sem,↓reduceIte,Nat.reduceEqDiff,Nat.reduceAdd,Nat.reduceSub,Nat.reduceMul,Nat.reduceLT,Nat.reduceLeDiff,reduceCtorEq,a_eq,a_neq,a_cast0,a_pred,a_app1,a_zero,Int.reduceToNat]
    refine callB' q lB lF ?_
    simp -dsimp(disch:=first|exact om|fail)only[go_sem,↓reduceIte,Nat.reduceEqDiff,Nat.reduceAdd,Nat.reduceSub,Nat.reduceMul,Nat.reduceLT,Nat.reduceLeDiff,reduceCtorEq,a_eq,a_neq,a_cast0,a_pred,a_app1,a_zero,Int.reduceToNat]
    refine loopJ (fun k : Nat => k ≤ l.length) (fun k => ⟨[(3, .ref 0 0), (4, .ref 1 0), (6, .ref 2 0), (8, I (if k = 0 then -1 else l.getD (k - 1) 0)), (19, sI g l), (20, I l.length), (21, I k)], [⟨.own, T_sl_int, [sI g l]⟩, ⟨.own, T_impl_Matrix, [I 0, I 0, .emp]⟩, ⟨.own, T_impl_grid, [I n, I n, .sl .b 1 n (gC .b .b n n M)]⟩]⟩) (fun k => l.length - k) 0 (by omega) ?_ ?_
    · exact StI.ren [some 1, some 2, some 3] [[], [], []] lE (by decide) lW lW
    intro k hk
    by_cases h : k < l.length
    · have hp : (List.range k).all (ascP n l) = true := by
        rw [List.all_eq_true]; intro j hj; exact rng_get ha (by have := List.mem_range.1 hj; omega)
      have e := last_asc hp rfl
      rw [rng_get ha h] at e
      generalize (if k = 0 then (-1 : Int) else l.getD (k - 1) 0) = last at *
      have e' := e.symm
      simp only [Bool.and_eq_true, Bool.not_eq_true', decide_eq_false_iff_not] at e'
      obtain ⟨a1, a2⟩ := e'
      simp -dsimp(disch:=first|exact om|fail)only[go_sem,↓reduceIte,Nat.reduceEqDiff,Nat.reduceAdd,Nat.reduceSub,Nat.reduceMul,Nat.reduceLT,Nat.reduceLeDiff,reduceCtorEq,a_eq,a_neq,a_cast0,a_pred,a_app1,a_zero,Int.reduceToNat]
      exact ⟨k + 1, by omega, by omega, StI.ren [some 0, some 1, some 2] [[], [], []] lE (by decide) lW (by simp -dsimp(disch:=first|exact om|fail)only[go_sem,↓reduceIte,Nat.reduceEqDiff,Nat.reduceAdd,Nat.reduceSub,Nat.reduceMul,Nat.reduceLT,Nat.reduceLeDiff,reduceCtorEq,a_eq,a_neq,a_cast0,a_pred,a_app1,a_zero,Int.reduceToNat, Nat.add_one_ne_zero, if_false, Nat.add_sub_cancel])⟩
    · obtain rfl : k = l.length := by omega
      simp -dsimp(disch:=first|exact om|fail)only[go_sem,↓reduceIte,Nat.reduceEqDiff,Nat.reduceAdd,Nat.reduceSub,Nat.reduceMul,Nat.reduceLT,Nat.reduceLeDiff,reduceCtorEq,a_eq,a_neq,a_cast0,a_pred,a_app1,a_zero,Int.reduceToNat]
      refine ⟨⟨[(3, .ptr .b [sI .b l]), (4, .ref 0 0), (6, .ptr .b [I n, I n, .sl .b 1 n (gC .b .b n n M)])], [⟨.own, T_impl_Matrix, [I 0, I 0, .emp]⟩]⟩, (StI.shareb 0 (cs' := [sI .b l]) rfl lW lW lW).trans ((StI.shareb 2 (cs' := [I n, I n, .sl .b 1 n (gC .b .b n n M)]) rfl lW lW lW).trans (StI.ren [some 1] [[]] lE (by decide) lW lW)), ?_⟩
      simp -dsimp(disch:=first|exact om|fail)only[go_sem,↓reduceIte,Nat.reduceEqDiff,Nat.reduceAdd,Nat.reduceSub,Nat.reduceMul,Nat.reduceLT,Nat.reduceLeDiff,reduceCtorEq,a_eq,a_neq,a_cast0,a_pred,a_app1,a_zero,Int.reduceToNat]
      refine callB' (newGrid_b l.length l.length (by omega) (by omega) _ [] [.ptr .b [I n, I n, .sl .b 1 n (gC .b .b n n M)], .ptr .b [sI .b l]] (by simp [V.fl1]) (fun i k => M (l.getD i 0).toNat (l.getD k 0).toNat) .b flb (fun i k hi hk => sub1_b n h24 M l hll ha i k hi hk)) ?_ lF ?_
      · simp [V.fl2, V.fl1]
      have hq := closed_g l.length l.length (by omega) (by omega) .b flb (fun i k => M (l.getD i 0).toNat (l.getD k 0).toNat)
      rw [show cloQ l.length l.length (fun i k => M (l.getD i 0).toNat (l.getD k 0).toNat) = (⟨l.length, l.length, gridR l.length l.length (subN m l)⟩, true) by
        unfold cloQ; rw [if_pos (gridL_all fun i k hi hk => (hM i k hi hk ha).1), gridL_qd fun i k hi hk => (hM i k hi hk ha).2]] at hq
      simp -dsimp(disch:=first|exact om|fail)only[go_sem,↓reduceIte,Nat.reduceEqDiff,Nat.reduceAdd,Nat.reduceSub,Nat.reduceMul,Nat.reduceLT,Nat.reduceLeDiff,reduceCtorEq,a_eq,a_neq,a_cast0,a_pred,a_app1,a_zero,Int.reduceToNat]
      refine callO' hq lL lF ?_
      simp -dsimp(disch:=first|exact om|fail)only[go_sem,↓reduceIte,Nat.reduceEqDiff,Nat.reduceAdd,Nat.reduceSub,Nat.reduceMul,Nat.reduceLT,Nat.reduceLeDiff,reduceCtorEq,a_eq,a_neq,a_cast0,a_pred,a_app1,a_zero,Int.reduceToNat]
      exact RtG.nothing [some 1] lE (by decide) (by simp -dsimp(disch:=first|exact om|fail)only[go_sem,↓reduceIte,Nat.reduceEqDiff,Nat.reduceAdd,Nat.reduceSub,Nat.reduceMul,Nat.reduceLT,Nat.reduceLeDiff,reduceCtorEq,a_eq,a_neq,a_cast0,a_pred,a_app1,a_zero,Int.reduceToNat, List.map_cons, List.map_nil]) lW
end Go.Proofs.YtikmepdhpffdoaaGreat
