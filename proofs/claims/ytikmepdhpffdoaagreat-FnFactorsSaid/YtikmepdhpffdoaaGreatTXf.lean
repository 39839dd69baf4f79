/- part of the proof -/
import Derived.Test.YtikmepdhpffdoaaGreatTXl
namespace Go.Proofs.YtikmepdhpffdoaaGreat
open Go Go.RowKit
set_option maxRecDepth 100000
set_option maxHeartbeats 4000000
set_option linter.unusedVariables false
set_option linter.unusedSimpArgs false
theorem rowQ_cells {m : MD} {r c i : Nat} (hg : m.Good r c) (hi : i < r) : (m.cells.drop (i * c)).take c = (rowQ c (m.at c i)).map qd := by
  have h1 : i * c + c ≤ r * c := by
    have := Nat.mul_le_mul_right c (show i + 1 ≤ r from hi)
    rwa [Nat.succ_mul] at this
  refine List.ext_getElem (by rw [List.length_take, List.length_drop, List.length_map, rowQ_length, hg.len]; omega) fun p h2 h3 => ?_
  have hp : p < c := by rw [List.length_map, rowQ_length] at h3; exact h3
  have q := (MD.at_ok hg hi hp).2
  have hb : i * c + p < m.cells.length := by rw [hg.len]; omega
  rw [List.getD_eq_getElem?_getD, List.getElem?_eq_getElem hb, Option.getD_some] at q
  simp only [List.getElem_take, List.getElem_drop, List.getElem_map, rowQ, List.getElem_range]
  exact q.symm
theorem l06Row_b (m : MD) (f : Fl) (hf : f ≠ .u) (r c i : Nat) (hg : m.Good r c) (hi : i < r) : PB PP F_spec_l06Row [mtV f m, I i] (sR f ((rowQ c (m.at c i)).map qd)) [] := by
  have h1 : i * c + c ≤ r * c := by
    have := Nat.mul_le_mul_right c (show i + 1 ≤ r from hi)
    rwa [Nat.succ_mul] at this
  have h2 := rc_le hg.r24 hg.c24
  have h24 := hg.r24
  have hlen := hg.len
  have hcc := hg.ec
  have e1 : (i : Int) * (c : Int) = ((i * c : Nat) : Int) := by rw [Int.natCast_mul]
  have e2 : ((i : Int) + 1) * (c : Int) = ((i * c + c : Nat) : Int) := by rw [Int.add_mul, Int.one_mul, e1]; omega
  have e3 : (i * c + c) - i * c = c := by omega
  have e4 : (((rsC f m.cells).drop (i * c * 3)).take (c * 3)) = rsC f ((rowQ c (m.at c i)).map qd) := by
    rw [rsC_drop, rsC_take, rowQ_cells hg hi]
  refine txb W_spec_l06Row ke_spec_l06Row [] [] [] (by kernel_rfl) ?_
  simp -dsimp(disch:=first|exact om|fail)only[go_sem,↓reduceIte,Nat.reduceEqDiff,Nat.reduceAdd,Nat.reduceSub,Nat.reduceMul,Nat.reduceLT,Nat.reduceLeDiff,reduceCtorEq,a_eq,a_neq,a_cast0,a_pred,a_app1,a_zero,Int.reduceToNat, hcc, e1, e2, e3, e4]
  have hl : ((rowQ c (m.at c i)).map qd).length = c := by rw [List.length_map, rowQ_length]
  generalize (rowQ c (m.at c i)).map qd = L at *
  rw [show sR f L = .sl f 3 c (rsC f L) by show V.sl f 3 L.length _ = _; rw [hl]]
  exact RtB.nothing [] (by decide) trivial (.same _ _ _ trivial (fun h => by cases h))
theorem rowQ_all {c : Nat} {g : Nat → FQ} (h : ∀ i, i < c → (g i).good = true) : allG (rowQ c g) = true := by
  rw [allG_mem]
  intro x hx
  obtain ⟨k, hk, rfl⟩ := List.mem_map.1 hx
  exact h k (List.mem_range.1 hk)
def appOk (m : MD) (l : List RD) : Bool := m.ok && vokR l && decide ((l.length : Int) = m.cols)
noncomputable def appL (m : MD) (l : List RD) : List FQ := rowQ m.rows.toNat fun i => sumQ (fun t => (m.at m.cols.toNat i t).mul ((l.map rdq).getD t FQ.bad)) m.cols.toNat
theorem appL_eq {m : MD} {r c : Nat} (hg : m.Good r c) (l : List RD) : appL m l = rowQ r fun i => sumQ (fun t => (m.at c i t).mul ((l.map rdq).getD t FQ.bad)) c := by
  unfold appL
  rw [show m.rows.toNat = r by rw [hg.er]; rfl, show m.cols.toNat = c by rw [hg.ec]; rfl]
noncomputable def quadQ (m : MD) (l : List RD) : FQ := if (appOk m l && decide (m.rows = m.cols)) = true then sumQ (fun i => ((l.map rdq).getD i FQ.bad).mul ((appL m l).getD i FQ.bad)) l.length else FQ.bad
theorem impl_QuadraticForm_g (m : MD) (f g : Fl) (hf : f ≠ .u) (hg0 : g ≠ .u) (l : List RD) (hs : smallL m.cells) (hl : smallL l) : GC PP F_impl_QuadraticForm [mtV f m, sR g l] [] (toO (quadQ m l)) (rH (qd (quadQ m l))) := by
  obtain ⟨r, c, M, q1, u1, v1⟩ := open_any m f hf hs
  unfold quadQ
  cases k : appOk m l && decide (m.rows = m.cols)
  · rw [if_neg (by simp)]
    refine txg W_impl_QuadraticForm ke_impl_QuadraticForm 0 [] [] [] rfl (by kernel_rfl) ?_
    simp -dsimp(disch:=first|exact om|fail)only[go_sem,↓reduceIte,Nat.reduceEqDiff,Nat.reduceAdd,Nat.reduceSub,Nat.reduceMul,Nat.reduceLT,Nat.reduceLeDiff,reduceCtorEq,a_eq,a_neq,a_cast0,a_pred,a_app1,a_zero,Int.reduceToNat]
    refine callB' q1 lB lF ?_
    simp -dsimp(disch:=first|exact om|fail)only[go_sem,↓reduceIte,Nat.reduceEqDiff,Nat.reduceAdd,Nat.reduceSub,Nat.reduceMul,Nat.reduceLT,Nat.reduceLeDiff,reduceCtorEq,a_eq,a_neq,a_cast0,a_pred,a_app1,a_zero,Int.reduceToNat]
    cases k1 : m.ok
    · cases hv : vokR l
      · refine callB' (loadVector_no g hg0 l hl hv) lB lF ?_
        simp -dsimp(disch:=first|exact om|fail)only[go_sem,↓reduceIte,Nat.reduceEqDiff,Nat.reduceAdd,Nat.reduceSub,Nat.reduceMul,Nat.reduceLT,Nat.reduceLeDiff,reduceCtorEq,a_eq,a_neq,a_cast0,a_pred,a_app1,a_zero,Int.reduceToNat]
        exact rtG_noT
      · refine callB' (loadVector_ok g hg0 l hl hv) lB lF ?_
        simp -dsimp(disch:=first|exact om|fail)only[go_sem,↓reduceIte,Nat.reduceEqDiff,Nat.reduceAdd,Nat.reduceSub,Nat.reduceMul,Nat.reduceLT,Nat.reduceLeDiff,reduceCtorEq,a_eq,a_neq,a_cast0,a_pred,a_app1,a_zero,Int.reduceToNat]
        exact rtG_noT
    · obtain ⟨_, _, ga, _⟩ := u1 k1
      have i1 := ga.er
      have i2 := ga.ec
      cases hv : vokR l
      · refine callB' (loadVector_no g hg0 l hl hv) lB lF ?_
        simp -dsimp(disch:=first|exact om|fail)only[go_sem,↓reduceIte,Nat.reduceEqDiff,Nat.reduceAdd,Nat.reduceSub,Nat.reduceMul,Nat.reduceLT,Nat.reduceLeDiff,reduceCtorEq,a_eq,a_neq,a_cast0,a_pred,a_app1,a_zero,Int.reduceToNat]
        exact rtG_noT
      · refine callB' (loadVector_ok g hg0 l hl hv) lB lF ?_
        have h24 := vokR_len hv
        by_cases h3 : r = c
        · have hne : ¬ l.length = c := by
            intro e
            unfold appOk at k
            rw [k1, hv, decide_eq_true (by rw [i2]; omega), decide_eq_true (by omega)] at k
            exact absurd k (by decide)
          simp -dsimp(disch:=first|exact om|fail)only[go_sem,↓reduceIte,Nat.reduceEqDiff,Nat.reduceAdd,Nat.reduceSub,Nat.reduceMul,Nat.reduceLT,Nat.reduceLeDiff,reduceCtorEq,a_eq,a_neq,a_cast0,a_pred,a_app1,a_zero,Int.reduceToNat, h3, hne]
          exact rtG_noT
        · simp -dsimp(disch:=first|exact om|fail)only[go_sem,↓reduceIte,Nat.reduceEqDiff,Nat.reduceAdd,Nat.reduceSub,Nat.reduceMul,Nat.reduceLT,Nat.reduceLeDiff,reduceCtorEq,a_eq,a_neq,a_cast0,a_pred,a_app1,a_zero,Int.reduceToNat, h3]
          exact rtG_noT
  · rw [if_pos rfl]
    unfold appOk at k
    simp only [Bool.and_eq_true, decide_eq_true_eq] at k
    obtain ⟨⟨⟨k1, hv⟩, h2⟩, h3⟩ := k
    obtain ⟨hr, hc, ga, rfl⟩ := u1 k1
    obtain rfl : r = c := by have i1 := ga.er; have i2 := ga.ec; omega
    have h24 := vokR_len hv
    have hlc : l.length = r := by have := ga.ec; omega
    have q2 := loadVector_ok g hg0 l hl hv
    have hlx : (l.map rdq).length = r := by rw [List.length_map, hlc]
    have q3 := applied_g r r hr hc (m.at r) .b .b flb flb (l.map rdq) hlx
    rw [appL_eq ga]
    have hlo : (rowQ r fun i => sumQ (fun t => (m.at r i t).mul ((l.map rdq).getD t FQ.bad)) r).length = r := rowQ_length
    generalize (rowQ r fun i => sumQ (fun t => (m.at r i t).mul ((l.map rdq).getD t FQ.bad)) r) = o at *
    generalize m.at r = M at *
    generalize l.map rdq = x at *
    have q4 := inner_c .b .b .b .s flb flb flb fls x o (by omega) (by omega)
    rw [show x.length = l.length by omega] at q4
    generalize sumQ (fun i => (x.getD i FQ.bad).mul (o.getD i FQ.bad)) l.length = S at *
    rw [k1] at q1
    refine txg W_impl_QuadraticForm ke_impl_QuadraticForm 0 [] [] [] rfl (by kernel_rfl) ?_
    simp -dsimp(disch:=first|exact om|fail)only[go_sem,↓reduceIte,Nat.reduceEqDiff,Nat.reduceAdd,Nat.reduceSub,Nat.reduceMul,Nat.reduceLT,Nat.reduceLeDiff,reduceCtorEq,a_eq,a_neq,a_cast0,a_pred,a_app1,a_zero,Int.reduceToNat]
    refine callB' q1 lB lF ?_
    simp -dsimp(disch:=first|exact om|fail)only[go_sem,↓reduceIte,Nat.reduceEqDiff,Nat.reduceAdd,Nat.reduceSub,Nat.reduceMul,Nat.reduceLT,Nat.reduceLeDiff,reduceCtorEq,a_eq,a_neq,a_cast0,a_pred,a_app1,a_zero,Int.reduceToNat]
    refine callB' q2 lB lF ?_
    simp -dsimp(disch:=first|exact om|fail)only[go_sem,↓reduceIte,Nat.reduceEqDiff,Nat.reduceAdd,Nat.reduceSub,Nat.reduceMul,Nat.reduceLT,Nat.reduceLeDiff,reduceCtorEq,a_eq,a_neq,a_cast0,a_pred,a_app1,a_zero,Int.reduceToNat]
    refine callO' q3 lW lF ?_
    simp -dsimp(disch:=first|exact om|fail)only[go_sem,↓reduceIte,Nat.reduceEqDiff,Nat.reduceAdd,Nat.reduceSub,Nat.reduceMul,Nat.reduceLT,Nat.reduceLeDiff,reduceCtorEq,a_eq,a_neq,a_cast0,a_pred,a_app1,a_zero,Int.reduceToNat]
    refine callP q4 lW ?_
    simp -dsimp(disch:=first|exact om|fail)only[go_sem,↓reduceIte,Nat.reduceEqDiff,Nat.reduceAdd,Nat.reduceSub,Nat.reduceMul,Nat.reduceLT,Nat.reduceLeDiff,reduceCtorEq,a_eq,a_neq,a_cast0,a_pred,a_app1,a_zero,Int.reduceToNat]
    refine callO' (told_g .s fls S) lL lF ?_
    simp -dsimp(disch:=first|exact om|fail)only[go_sem,↓reduceIte,Nat.reduceEqDiff,Nat.reduceAdd,Nat.reduceSub,Nat.reduceMul,Nat.reduceLT,Nat.reduceLeDiff,reduceCtorEq,a_eq,a_neq,a_cast0,a_pred,a_app1,a_zero,Int.reduceToNat]
    exact RtG.nothing [some 5, some 6] lE (by decide) lS lE
theorem partQ_succ {f : Fl} {n c k : Nat} {K : Nat → Nat → FQ} : rsC f (partR n c k fun i j => qd (K i j)) ++ [Bo (qd (K n k)).neg, sI f (qd (K n k)).mag, sI f (qd (K n k)).den] = rsC f (partR n c (k + 1) fun i j => qd (K i j)) := partR_succ
theorem tr_good {b : MD} {r c : Nat} (hg : b.Good r c) : (⟨c, r, gridR c r fun k i => b.cells.getD (i * c + k) RD.zero⟩ : MD).Good c r := by
  refine ⟨hg.c24, hg.r24, rfl, rfl, gridR_length, ?_⟩
  rw [List.all_eq_true]
  intro x hx
  obtain ⟨k, hk, hx⟩ := List.mem_flatMap.1 hx
  obtain ⟨i, hi, rfl⟩ := List.mem_map.1 hx
  exact getD_all hg.all (by rw [hg.len]; exact ix_lt (List.mem_range.1 hi) (List.mem_range.1 hk))
theorem gridR_getD {n c : Nat} {N : Nat → Nat → RD} {i k : Nat} (hi : i < n) (hk : k < c) : (gridR n c N).getD (i * c + k) RD.zero = N i k := by
  induction n with
  | zero => omega
  | succ n ih =>
    rw [gridR_succ, List.getD_eq_getElem?_getD]
    rcases Nat.lt_or_eq_of_le (Nat.le_of_lt_succ hi) with h | rfl
    · rw [List.getElem?_append_left (by rw [gridR_length]; exact ix_lt h hk), ← List.getD_eq_getElem?_getD]
      exact ih h
    · rw [List.getElem?_append_right (by rw [gridR_length]; omega), gridR_length, Nat.add_sub_cancel_left]
      simp [hk]
theorem tr_at {b : MD} {r c i k : Nat} (hi : i < c) (hk : k < r) : (⟨c, r, gridR c r fun k i => b.cells.getD (i * c + k) RD.zero⟩ : MD).at r i k = b.at c k i := by
  unfold MD.at
  rw [gridR_getD hi hk]
theorem l06Multiply_g (a b : MD) (f g : Fl) (hf : f ≠ .u) (hg : g ≠ .u) (r c k : Nat) (ga : a.Good r c) (gb : b.Good c k) (hb : smallL b.cells) :
    GC PP F_spec_l06Multiply [mtV f a, mtV g b] [] (.agg [I r, I k, .rsl 0 3 0 (r * k)]) [⟨.own, T_impl_Rat, rsC .s (gridR r k fun i j => qd (sumQ (fun t => (a.at c i t).mul (b.at k t j)) c))⟩] := by
  have i1 := ga.er
  have i2 := gb.ec
  have i3 := gb.er
  have i4 := ga.ec
  have h24 := ga.r24
  have hk24 := gb.c24
  have hrk := rc_le h24 hk24
  have qt := l06Transpose_c b g hg c k gb hb
  have gt := tr_good gb
  have hT : ∀ j t, j < k → t < c → (⟨k, c, gridR k c fun k' i => b.cells.getD (i * k + k') RD.zero⟩ : MD).at c j t = b.at k t j := fun j t hj ht => tr_at hj ht
  generalize hTT : (⟨k, c, gridR k c fun k' i => b.cells.getD (i * k + k') RD.zero⟩ : MD) = T at *
  have hTr : T.rows = k := gt.er
  have hTc : T.cols = c := gt.ec
  have q1 : ∀ i, i < r → PB PP F_spec_l06Row [V.agg [I r, I c, sR f a.cells], I i] (sR f ((rowQ c (a.at c i)).map qd)) [] := by
    intro i hi
    have q := l06Row_b a f hf r c i ga hi
    simp only [mtV, mtC, i1, i4] at q
    exact q
  have q2 : ∀ j, j < k → PB PP F_spec_l06Row [V.agg [I k, I c, sR .s T.cells], I j] (sR .s ((rowQ c (T.at c j)).map qd)) [] := by
    intro j hj
    have q := l06Row_b T .s fls k c j gt hj
    simp only [mtV, mtC, hTr, hTc] at q
    exact q
  obtain ⟨K, hK⟩ : ∃ K : Nat → Nat → FQ, K = fun i j => sumQ (fun t => (a.at c i t).mul (b.at k t j)) c := ⟨_, rfl⟩
  have q3 : ∀ i j, i < r → j < k → PC PP F_spec_l05Inner [sR f ((rowQ c (a.at c i)).map qd), sR .s ((rowQ c (T.at c j)).map qd)] (rV .s (qd (K i j))) [] := by
    intro i j hi hj
    have q := l05Inner_c f .s hf fls (rowQ c (a.at c i)) (rowQ c (T.at c j)) (by rw [rowQ_length, rowQ_length]) (by rw [rowQ_length]; have := ga.c24; omega) (rowQ_all fun t ht => (MD.at_ok ga hi ht).1) (rowQ_all fun t ht => (MD.at_ok gt hj ht).1)
    rw [rowQ_length, sumQ_congr (g := fun t => ((rowQ c (a.at c i)).getD t FQ.bad).mul ((rowQ c (T.at c j)).getD t FQ.bad)) (h := fun t => (a.at c i t).mul (b.at k t j)) (fun t ht => by rw [rowQ_get ht, rowQ_get ht, hT j t hj ht])] at q
    rw [hK]
    exact q
  rw [show (fun i j => qd (sumQ (fun t => (a.at c i t).mul (b.at k t j)) c)) = fun i j => qd (K i j) by rw [hK]]
  simp only [mtV, mtC, hTr, hTc, i2, i3] at qt
  clear hK
  obtain ⟨ar, ac, al⟩ := a
  obtain ⟨br, bc, bl⟩ := b
  simp only at *
  subst i1 i2 i3 i4
  refine txg W_spec_l06Multiply ke_spec_l06Multiply 0 [] [] [] rfl (by kernel_rfl) ?_
  simp -dsimp(disch:=first|exact om|fail)only[go_sem,↓reduceIte,Nat.reduceEqDiff,Nat.reduceAdd,Nat.reduceSub,Nat.reduceMul,Nat.reduceLT,Nat.reduceLeDiff,reduceCtorEq,a_eq,a_neq,a_cast0,a_pred,a_app1,a_zero,Int.reduceToNat]
  refine callP qt lL ?_
  simp -dsimp(disch:=first|exact om|fail)only[go_sem,↓reduceIte,Nat.reduceEqDiff,Nat.reduceAdd,Nat.reduceSub,Nat.reduceMul,Nat.reduceLT,Nat.reduceLeDiff,reduceCtorEq,a_eq,a_neq,a_cast0,a_pred,a_app1,a_zero,Int.reduceToNat]
  refine loopJ (fun i : Nat => i ≤ r) (fun i => ⟨[(2, .ref 0 0), (3, .ref 1 0), (4, .ref 2 0), (5, .ref 3 0), (6, .ref 4 0), (7, I i)], [⟨.own, T_impl_Matrix, [I r, I c, sR f al]⟩, ⟨.own, T_impl_Matrix, [I c, I k, sR g bl]⟩, ⟨.own, T_impl_Matrix, [I 0, I 0, .emp]⟩, ⟨.own, T_impl_Matrix, [I r, I k, .rsl 5 3 0 (i * k)]⟩, ⟨.own, T_impl_Matrix, [I k, I c, sR .s T.cells]⟩, ⟨.own, T_impl_Rat, rsC .s (gridR i k fun i j => qd (K i j))⟩]⟩) (fun i => r - i) 0 (by omega) ?_ ?_
  · refine StI.ren [some 0, some 1, some 2, some 3, some 4, none] [[], [], [], [], [], []] lE (by decide) ?_ lW
    simp -dsimp(disch:=first|exact om|fail)only[go_sem,↓reduceIte,Nat.reduceEqDiff,Nat.reduceAdd,Nat.reduceSub,Nat.reduceMul,Nat.reduceLT,Nat.reduceLeDiff,reduceCtorEq,a_eq,a_neq,a_cast0,a_pred,a_app1,a_zero,Int.reduceToNat, Nat.zero_mul, show (gridR 0 k fun i j => qd (K i j)) = [] from rfl]
  intro i hi
  by_cases h : i < r
  · have hkr : (i + 1) * k ≤ r * k := Nat.mul_le_mul_right k h
    rw [Nat.succ_mul] at hkr
    have q1 := q1 i h
    have q3 := fun j => q3 i j h
    have hl1 : ((rowQ c (MD.at ⟨r, c, al⟩ c i)).map qd).length = c := by rw [List.length_map, rowQ_length]
    generalize (rowQ c (MD.at ⟨r, c, al⟩ c i)).map qd = L1 at *
    simp -dsimp(disch:=first|exact om|fail)only[go_sem,↓reduceIte,Nat.reduceEqDiff,Nat.reduceAdd,Nat.reduceSub,Nat.reduceMul,Nat.reduceLT,Nat.reduceLeDiff,reduceCtorEq,a_eq,a_neq,a_cast0,a_pred,a_app1,a_zero,Int.reduceToNat]
    refine loopJ (fun j : Nat => j ≤ k) (fun j => ⟨[(2, .ref 0 0), (3, .ref 1 0), (4, .ref 2 0), (5, .ref 3 0), (6, .ref 4 0), (7, I i), (8, I j)], [⟨.own, T_impl_Matrix, [I r, I c, sR f al]⟩, ⟨.own, T_impl_Matrix, [I c, I k, sR g bl]⟩, ⟨.own, T_impl_Matrix, [I 0, I 0, .emp]⟩, ⟨.own, T_impl_Matrix, [I r, I k, .rsl 5 3 0 (i * k + j)]⟩, ⟨.own, T_impl_Matrix, [I k, I c, sR .s T.cells]⟩, ⟨.own, T_impl_Rat, rsC .s (partR i k j fun i j => qd (K i j))⟩]⟩) (fun j => k - j) 0 (by omega) ?_ ?_
    · refine StI.ren [some 0, some 1, some 2, some 3, some 4, some 5] [[], [], [], [], [], []] lE (by decide) ?_ lW
      rw [partR_zero]
      simp -dsimp(disch:=first|exact om|fail)only[go_sem,↓reduceIte,Nat.reduceEqDiff,Nat.reduceAdd,Nat.reduceSub,Nat.reduceMul,Nat.reduceLT,Nat.reduceLeDiff,reduceCtorEq,a_eq,a_neq,a_cast0,a_pred,a_app1,a_zero,Int.reduceToNat, Nat.add_zero]
    intro j hj
    by_cases h2 : j < k
    · have q2 := q2 j h2
      have q3 := q3 j h2
      have hl2 : ((rowQ c (T.at c j)).map qd).length = c := by rw [List.length_map, rowQ_length]
      generalize (rowQ c (T.at c j)).map qd = L2 at *
      have hpl := partR_length (n := i) (c := k) (k := j) (N := fun i j => qd (K i j))
      simp -dsimp(disch:=first|exact om|fail)only[go_sem,↓reduceIte,Nat.reduceEqDiff,Nat.reduceAdd,Nat.reduceSub,Nat.reduceMul,Nat.reduceLT,Nat.reduceLeDiff,reduceCtorEq,a_eq,a_neq,a_cast0,a_pred,a_app1,a_zero,Int.reduceToNat]
      refine callB' q1 lB lF ?_
      simp -dsimp(disch:=first|exact om|fail)only[go_sem,↓reduceIte,Nat.reduceEqDiff,Nat.reduceAdd,Nat.reduceSub,Nat.reduceMul,Nat.reduceLT,Nat.reduceLeDiff,reduceCtorEq,a_eq,a_neq,a_cast0,a_pred,a_app1,a_zero,Int.reduceToNat]
      refine callB' q2 lB lF ?_
      simp -dsimp(disch:=first|exact om|fail)only[go_sem,↓reduceIte,Nat.reduceEqDiff,Nat.reduceAdd,Nat.reduceSub,Nat.reduceMul,Nat.reduceLT,Nat.reduceLeDiff,reduceCtorEq,a_eq,a_neq,a_cast0,a_pred,a_app1,a_zero,Int.reduceToNat]
      refine callP q3 lW ?_
      simp -dsimp(disch:=first|exact om|fail)only[go_sem,↓reduceIte,Nat.reduceEqDiff,Nat.reduceAdd,Nat.reduceSub,Nat.reduceMul,Nat.reduceLT,Nat.reduceLeDiff,reduceCtorEq,a_eq,a_neq,a_cast0,a_pred,a_app1,a_zero,Int.reduceToNat, hpl]
      rw [partQ_succ]
      exact ⟨j + 1, by omega, by omega, StI.ren [some 0, some 1, some 2, some 3, some 4, some 6] [[], [], [], [], [], []] lE (by decide) (by simp -dsimp(disch:=first|exact om|fail)only[go_sem,↓reduceIte,Nat.reduceEqDiff,Nat.reduceAdd,Nat.reduceSub,Nat.reduceMul,Nat.reduceLT,Nat.reduceLeDiff,reduceCtorEq,a_eq,a_neq,a_cast0,a_pred,a_app1,a_zero,Int.reduceToNat]; omega) lW⟩
    · obtain rfl : j = k := by omega
      simp -dsimp(disch:=first|exact om|fail)only[go_sem,↓reduceIte,Nat.reduceEqDiff,Nat.reduceAdd,Nat.reduceSub,Nat.reduceMul,Nat.reduceLT,Nat.reduceLeDiff,reduceCtorEq,a_eq,a_neq,a_cast0,a_pred,a_app1,a_zero,Int.reduceToNat]
      refine ⟨i + 1, by omega, by omega, ?_⟩
      rw [partR_full, Nat.succ_mul]
      refine StI.ren [some 0, some 1, some 2, some 3, some 4, some 5] [[], [], [], [], [], []] lE (by decide) ?_ lW
      simp -dsimp(disch:=first|exact om|fail)only[go_sem,↓reduceIte,Nat.reduceEqDiff,Nat.reduceAdd,Nat.reduceSub,Nat.reduceMul,Nat.reduceLT,Nat.reduceLeDiff,reduceCtorEq,a_eq,a_neq,a_cast0,a_pred,a_app1,a_zero,Int.reduceToNat]
  · obtain rfl : i = r := by omega
    simp -dsimp(disch:=first|exact om|fail)only[go_sem,↓reduceIte,Nat.reduceEqDiff,Nat.reduceAdd,Nat.reduceSub,Nat.reduceMul,Nat.reduceLT,Nat.reduceLeDiff,reduceCtorEq,a_eq,a_neq,a_cast0,a_pred,a_app1,a_zero,Int.reduceToNat]
    exact RtG.nothing [some 5] lE (by decide) (by simp -dsimp(disch:=first|exact om|fail)only[go_sem,↓reduceIte,Nat.reduceEqDiff,Nat.reduceAdd,Nat.reduceSub,Nat.reduceMul,Nat.reduceLT,Nat.reduceLeDiff,reduceCtorEq,a_eq,a_neq,a_cast0,a_pred,a_app1,a_zero,Int.reduceToNat, List.map_cons, List.map_nil]) lW
end Go.Proofs.YtikmepdhpffdoaaGreat
