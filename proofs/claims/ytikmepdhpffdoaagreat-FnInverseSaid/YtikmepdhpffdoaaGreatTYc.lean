/- part of the proof -/
import Derived.Test.YtikmepdhpffdoaaGreatTYa
import Derived.Test.YtikmepdhpffdoaaGreatTYb
namespace Go.Proofs.YtikmepdhpffdoaaGreat
open Go Go.RowKit
set_option maxRecDepth 100000
set_option maxHeartbeats 4000000
set_option linter.unusedVariables false
set_option linter.unusedSimpArgs false
def colM (x : List FQ) : Nat → Nat → FQ := fun i _ => x.getD i FQ.bad
theorem loadVector_b (f : Fl) (hf : f ≠ .u) (l : List RD) (hl : smallL l) (ha : vokR l = true) : PB PP F_impl_loadVector [sR f l] (.tup [.sl .b 1 l.length (qs .b (l.map rdq)), Bo true]) [] := by
  refine (loadVector_ok f hf l hl ha).conv (RtB.shareb 0 (cs' := qs .b (l.map rdq)) rfl lW (leL_qsb flb) lW (RtB.nothing [] (by decide) trivial ?_))
  exact .tup _ _ _ _ _ (.cons _ _ _ _ _ _ [] [] (rn_rslB rfl (by simp [qs_length]) (of_eq_true qs_flat)) (.cons _ _ _ _ _ _ [] [] (.same _ _ _ trivial (fun h => by cases h)) (.nil _ _)))
theorem solution1_b (n : Nat) (x : List FQ) (hx : x.length = n) (i k : Nat) (hi : i < n) :
    PB PP F_impl_grid_solution_1 [I i, I k, .ptr .b [.sl .b 1 n (qs .b x)]] (pQ .b (colM x i k)) [] := by
  refine txb W_impl_grid_solution_1 ke_impl_grid_solution_1 [] [] [] (by kernel_rfl) ?_
  unfold colM
  simp -dsimp(disch:=first|exact om|fail)only[go_sem,↓reduceIte,Nat.reduceEqDiff,Nat.reduceAdd,Nat.reduceSub,Nat.reduceMul,Nat.reduceLT,Nat.reduceLeDiff,reduceCtorEq,a_eq,a_neq,a_cast0,a_pred,a_app1,a_zero,Int.reduceToNat]
  exact RtB.nothing [] (by decide) trivial lW
@[go_sem] def slnV (n : Nat) : Option (Nat → Nat → FQ) → V
  | some _ => .tup [.rsl 0 1 0 n, Bo true]
  | none => .tup [.emp, Bo false]
@[go_sem] def slnH (n : Nat) : Option (Nat → Nat → FQ) → List Ob
  | some X => [⟨.own, T_p_impl_ratio, qs .b (rowQ n fun i => X i 0)⟩]
  | none => []
theorem solution_b (n : Nat) (hn : n ≤ 24) (M : Nat → Nat → FQ) (x : List FQ) (hx : x.length = n) (hM : ∀ i j, i < n → j < n → (M i j).good = true) (hN : ∀ i, i < n → (x.getD i FQ.bad).good = true) :
    PB PP F_impl_grid_solution [gV .b n n M, .sl .b 1 n (qs .b x)] (slnV n (solO n n 1 M (colM x))) (slnH n (solO n n 1 M (colM x))) := by
  have q := reduce_b n n hn (by omega) M hM
  have q2 := solved_b n n 1 hn hn (by omega) M (colM x) hM (fun i j hi _ => hN i hi)
  have hno := @sol_none n 1 M (colM x) hM
  refine txb W_impl_grid_solution ke_impl_grid_solution [] [4] [] (by kernel_rfl) ?_
  simp -dsimp(disch:=first|exact om|fail)only[go_sem,↓reduceIte,Nat.reduceEqDiff,Nat.reduceAdd,Nat.reduceSub,Nat.reduceMul,Nat.reduceLT,Nat.reduceLeDiff,reduceCtorEq,a_eq,a_neq,a_cast0,a_pred,a_app1,a_zero,Int.reduceToNat]
  rcases e : redTo n n M n with _ | a
  · rw [e] at q
    replace q : PB PP F_impl_grid_reduce [gV .b n n M] (.tup [.agg [I 0, I 0, .emp, .emp, .lit (.pointer none)], Bo false]) [] := q
    rw [hno (fun b hb => by rw [e] at hb; cases hb)]
    show _
    refine callB' q lB lF ?_
    simp -dsimp(disch:=first|exact om|fail)only[go_sem,↓reduceIte,Nat.reduceEqDiff,Nat.reduceAdd,Nat.reduceSub,Nat.reduceMul,Nat.reduceLT,Nat.reduceLeDiff,reduceCtorEq,a_eq,a_neq,a_cast0,a_pred,a_app1,a_zero,Int.reduceToNat]
    exact RtB.nothing [] (by decide) trivial lW
  · rw [e] at q
    have hpl : a.piv.length ≤ n := (redTo_inv hM e).pl
    replace q : PB PP F_impl_grid_reduce [gV .b n n M] (.tup [.agg [I n, I n, .sl .b 1 n (gC .b .b n n a.M), .rsl 0 1 0 a.piv.length, pQ .b a.det], Bo true]) [⟨.own, T_int, iC a.piv⟩] := q
    refine callB' q lB lF ?_
    by_cases hp : a.piv.length = n
    · simp -dsimp(disch:=first|exact om|fail)only[go_sem,↓reduceIte,Nat.reduceEqDiff,Nat.reduceAdd,Nat.reduceSub,Nat.reduceMul,Nat.reduceLT,Nat.reduceLeDiff,reduceCtorEq,a_eq,a_neq,a_cast0,a_pred,a_app1,a_zero,Int.reduceToNat]
      refine ⟨⟨[(2, .ptr .b [I n, I n, .sl .b 1 n (gC .b .b n n M)]), (3, .ptr .b [.sl .b 1 n (qs .b x)])], []⟩, ((StI.shareb 0 (cs' := [I n, I n, .sl .b 1 n (gC .b .b n n M)]) rfl lW lW lW).trans (StI.shareb 1 (cs' := [.sl .b 1 n (qs .b x)]) rfl lW lW lW)).trans (StI.ren [] [] lE (by decide) lW lW), ?_⟩
      simp -dsimp(disch:=first|exact om|fail)only[go_sem,↓reduceIte,Nat.reduceEqDiff,Nat.reduceAdd,Nat.reduceSub,Nat.reduceMul,Nat.reduceLT,Nat.reduceLeDiff,reduceCtorEq,a_eq,a_neq,a_cast0,a_pred,a_app1,a_zero,Int.reduceToNat]
      refine callB' (newGrid_b n 1 (by omega) (by omega) _ [] [.ptr .b [.sl .b 1 n (qs .b x)]] (by simp [V.fl1]) (colM x) .b flb (fun i k hi hk => solution1_b n x hx i k hi)) ?_ lF ?_
      · simp [V.fl2, V.fl1]
      simp -dsimp(disch:=first|exact om|fail)only[go_sem,↓reduceIte,Nat.reduceEqDiff,Nat.reduceAdd,Nat.reduceSub,Nat.reduceMul,Nat.reduceLT,Nat.reduceLeDiff,reduceCtorEq,a_eq,a_neq,a_cast0,a_pred,a_app1,a_zero,Int.reduceToNat]
      rcases e2 : solO n n 1 M (colM x) with _ | X
      · rw [e2] at q2
        replace q2 : PB PP F_impl_grid_solved [gV .b n n M, gV .b n 1 (colM x)] (.tup [.agg [I 0, I 0, .emp], Bo false]) [] := q2
        refine callB' q2 lB lF ?_
        simp -dsimp(disch:=first|exact om|fail)only[go_sem,↓reduceIte,Nat.reduceEqDiff,Nat.reduceAdd,Nat.reduceSub,Nat.reduceMul,Nat.reduceLT,Nat.reduceLeDiff,reduceCtorEq,a_eq,a_neq,a_cast0,a_pred,a_app1,a_zero,Int.reduceToNat]
        exact RtB.nothing [] (by decide) trivial lW
      · rw [e2] at q2
        replace q2 : PB PP F_impl_grid_solved [gV .b n n M, gV .b n 1 (colM x)] (.tup [gV .b n 1 X, Bo true]) [] := q2
        have q3 : PB PP F_impl_grid_column [gV .b n 1 X, I 0] (.rsl 0 1 0 n) [⟨.own, T_p_impl_ratio, qs .b (rowQ n fun i => X i 0)⟩] := column_b n 1 hn (by omega) X 0 (by omega)
        refine callB' q2 lB lF ?_
        simp -dsimp(disch:=first|exact om|fail)only[go_sem,↓reduceIte,Nat.reduceEqDiff,Nat.reduceAdd,Nat.reduceSub,Nat.reduceMul,Nat.reduceLT,Nat.reduceLeDiff,reduceCtorEq,a_eq,a_neq,a_cast0,a_pred,a_app1,a_zero,Int.reduceToNat]
        refine callB' q3 lB lF ?_
        simp -dsimp(disch:=first|exact om|fail)only[go_sem,↓reduceIte,Nat.reduceEqDiff,Nat.reduceAdd,Nat.reduceSub,Nat.reduceMul,Nat.reduceLT,Nat.reduceLeDiff,reduceCtorEq,a_eq,a_neq,a_cast0,a_pred,a_app1,a_zero,Int.reduceToNat]
        exact RtB.nothing [some 1] (by decide) lW lW
    · rw [hno (fun b hb => by rw [e] at hb; cases hb; exact hp)]
      simp -dsimp(disch:=first|exact om|fail)only[go_sem,↓reduceIte,Nat.reduceEqDiff,Nat.reduceAdd,Nat.reduceSub,Nat.reduceMul,Nat.reduceLT,Nat.reduceLeDiff,reduceCtorEq,a_eq,a_neq,a_cast0,a_pred,a_app1,a_zero,Int.reduceToNat]
      exact RtB.nothing [] (by decide) trivial lW
noncomputable def sysN (r : Nat) (M : Nat → Nat → FQ) (x : List FQ) : List FQ × Bool := match solO r r 1 M (colM x) with
  | some X => (rowQ r fun i => X i 0, true)
  | none => noV
theorem sysN_some {r : Nat} {M X : Nat → Nat → FQ} {x : List FQ} (h : solO r r 1 M (colM x) = some X) : sysN r M x = (rowQ r fun i => X i 0, true) := by unfold sysN; rw [h]
theorem sysN_none {r : Nat} {M : Nat → Nat → FQ} {x : List FQ} (h : solO r r 1 M (colM x) = none) : sysN r M x = noV := by unfold sysN; rw [h]
def sysOk (m : MD) (l : List RD) : Bool := m.ok && vokR l && decide (m.rows = m.cols) && decide (m.rows ≤ 12) && decide ((l.length : Int) = m.rows)
noncomputable def sysQ (m : MD) (l : List RD) : List FQ × Bool := if sysOk m l = true then sysN m.rows.toNat (m.at m.rows.toNat) (l.map rdq) else noV
theorem sysQ_no {m : MD} {l : List RD} (h : sysOk m l = false) : sysQ m l = noV := by unfold sysQ; rw [h]; rfl
theorem sysQ_ok {m : MD} {l : List RD} {r : Nat} (h : sysOk m l = true) (hg : m.Good r r) : sysQ m l = sysN r (m.at r) (l.map rdq) := by
  unfold sysQ; rw [h, hg.er]; rfl
theorem impl_SolveSystem_g (m : MD) (f g : Fl) (hf : f ≠ .u) (hg0 : g ≠ .u) (l : List RD) (hs : smallL m.cells) (hl : smallL l) : GC PP F_impl_SolveSystem [mtV f m, sR g l] [] (vsG (sysQ m l)) (vsH (sysQ m l)) := by
  obtain ⟨r, c, M, q1, u1, v1⟩ := open_any m f hf hs
  cases k : sysOk m l
  · rw [sysQ_no k]
    refine txg W_impl_SolveSystem ke_impl_SolveSystem 0 [] [] [] rfl (by kernel_rfl) ?_
    simp -dsimp(disch:=first|exact om|fail)only[go_sem,↓reduceIte,Nat.reduceEqDiff,Nat.reduceAdd,Nat.reduceSub,Nat.reduceMul,Nat.reduceLT,Nat.reduceLeDiff,reduceCtorEq,a_eq,a_neq,a_cast0,a_pred,a_app1,a_zero,Int.reduceToNat]
    refine callB' q1 lB lF ?_
    simp -dsimp(disch:=first|exact om|fail)only[go_sem,↓reduceIte,Nat.reduceEqDiff,Nat.reduceAdd,Nat.reduceSub,Nat.reduceMul,Nat.reduceLT,Nat.reduceLeDiff,reduceCtorEq,a_eq,a_neq,a_cast0,a_pred,a_app1,a_zero,Int.reduceToNat]
    cases k1 : m.ok
    · cases hv : vokR l
      · refine callB' (loadVector_no g hg0 l hl hv) lB lF ?_
        simp -dsimp(disch:=first|exact om|fail)only[go_sem,↓reduceIte,Nat.reduceEqDiff,Nat.reduceAdd,Nat.reduceSub,Nat.reduceMul,Nat.reduceLT,Nat.reduceLeDiff,reduceCtorEq,a_eq,a_neq,a_cast0,a_pred,a_app1,a_zero,Int.reduceToNat]
        exact rtG_noV
      · refine callB' (loadVector_b g hg0 l hl hv) lB lF ?_
        simp -dsimp(disch:=first|exact om|fail)only[go_sem,↓reduceIte,Nat.reduceEqDiff,Nat.reduceAdd,Nat.reduceSub,Nat.reduceMul,Nat.reduceLT,Nat.reduceLeDiff,reduceCtorEq,a_eq,a_neq,a_cast0,a_pred,a_app1,a_zero,Int.reduceToNat]
        exact rtG_noV
    · obtain ⟨_, _, ga, _⟩ := u1 k1
      cases hv : vokR l
      · refine callB' (loadVector_no g hg0 l hl hv) lB lF ?_
        simp -dsimp(disch:=first|exact om|fail)only[go_sem,↓reduceIte,Nat.reduceEqDiff,Nat.reduceAdd,Nat.reduceSub,Nat.reduceMul,Nat.reduceLT,Nat.reduceLeDiff,reduceCtorEq,a_eq,a_neq,a_cast0,a_pred,a_app1,a_zero,Int.reduceToNat]
        exact rtG_noV
      · refine callB' (loadVector_b g hg0 l hl hv) lB lF ?_
        have h24 := vokR_len hv
        have e1 := ga.er
        have e2 := ga.ec
        by_cases h1 : r = c
        · by_cases h2 : r ≤ 12
          · by_cases h3 : l.length = r
            · exfalso
              unfold sysOk at k
              rw [k1, hv, decide_eq_true (show m.rows = m.cols by omega), decide_eq_true (show m.rows ≤ 12 by omega), decide_eq_true (show (l.length : Int) = m.rows by omega)] at k
              exact absurd k (by decide)
            · simp -dsimp(disch:=first|exact om|fail)only[go_sem,↓reduceIte,Nat.reduceEqDiff,Nat.reduceAdd,Nat.reduceSub,Nat.reduceMul,Nat.reduceLT,Nat.reduceLeDiff,reduceCtorEq,a_eq,a_neq,a_cast0,a_pred,a_app1,a_zero,Int.reduceToNat]
              exact rtG_noV
          · simp -dsimp(disch:=first|exact om|fail)only[go_sem,↓reduceIte,Nat.reduceEqDiff,Nat.reduceAdd,Nat.reduceSub,Nat.reduceMul,Nat.reduceLT,Nat.reduceLeDiff,reduceCtorEq,a_eq,a_neq,a_cast0,a_pred,a_app1,a_zero,Int.reduceToNat]
            exact rtG_noV
        · simp -dsimp(disch:=first|exact om|fail)only[go_sem,↓reduceIte,Nat.reduceEqDiff,Nat.reduceAdd,Nat.reduceSub,Nat.reduceMul,Nat.reduceLT,Nat.reduceLeDiff,reduceCtorEq,a_eq,a_neq,a_cast0,a_pred,a_app1,a_zero,Int.reduceToNat]
          exact rtG_noV
  · have k' := k
    unfold sysOk at k'
    simp only [Bool.and_eq_true, decide_eq_true_eq] at k'
    obtain ⟨⟨⟨⟨k1, hv⟩, h1⟩, h2⟩, h3⟩ := k'
    obtain ⟨hr, hc, ga, rfl⟩ := u1 k1
    have e1 := ga.er
    have e2 := ga.ec
    obtain rfl : r = c := by omega
    rw [sysQ_ok k ga]
    have hlr : l.length = r := by omega
    have h12 : r ≤ 12 := by omega
    have q2 := loadVector_b g hg0 l hl hv
    have hgd : ∀ i j, i < r → j < r → (m.at r i j).good = true := fun i j hi hj => (MD.at_ok ga hi hj).1
    obtain ⟨y, e3, _, e4, gy⟩ := vok_list hv
    rw [e4, hlr] at q2
    rw [e4]
    have hy : y.length = r := by rw [← e4, List.length_map, hlr]
    have q3 := solution_b r hr (m.at r) y hy hgd (fun i hi => by
      rw [allG_mem] at gy
      rw [List.getD_eq_getElem?_getD, List.getElem?_eq_getElem (by omega), Option.getD_some]
      exact gy _ (List.getElem_mem _))
    rw [k1] at q1
    generalize m.at r = M at *
    rcases e5 : solO r r 1 M (colM y) with _ | X
    · rw [e5] at q3
      rw [sysN_none e5]
      refine txg W_impl_SolveSystem ke_impl_SolveSystem 0 [] [] [] rfl (by kernel_rfl) ?_
      simp -dsimp(disch:=first|exact om|fail)only[go_sem,↓reduceIte,Nat.reduceEqDiff,Nat.reduceAdd,Nat.reduceSub,Nat.reduceMul,Nat.reduceLT,Nat.reduceLeDiff,reduceCtorEq,a_eq,a_neq,a_cast0,a_pred,a_app1,a_zero,Int.reduceToNat]
      refine callB' q1 lB lF ?_
      simp -dsimp(disch:=first|exact om|fail)only[go_sem,↓reduceIte,Nat.reduceEqDiff,Nat.reduceAdd,Nat.reduceSub,Nat.reduceMul,Nat.reduceLT,Nat.reduceLeDiff,reduceCtorEq,a_eq,a_neq,a_cast0,a_pred,a_app1,a_zero,Int.reduceToNat]
      refine callB' q2 lB lF ?_
      simp -dsimp(disch:=first|exact om|fail)only[go_sem,↓reduceIte,Nat.reduceEqDiff,Nat.reduceAdd,Nat.reduceSub,Nat.reduceMul,Nat.reduceLT,Nat.reduceLeDiff,reduceCtorEq,a_eq,a_neq,a_cast0,a_pred,a_app1,a_zero,Int.reduceToNat]
      refine callB' q3 lB (by intro ob h; cases h) ?_
      unfold slnV slnH
      simp -dsimp(disch:=first|exact om|fail)only[go_sem,↓reduceIte,Nat.reduceEqDiff,Nat.reduceAdd,Nat.reduceSub,Nat.reduceMul,Nat.reduceLT,Nat.reduceLeDiff,reduceCtorEq,a_eq,a_neq,a_cast0,a_pred,a_app1,a_zero,Int.reduceToNat]
      exact rtG_noV
    · rw [e5] at q3
      rw [sysN_some e5]
      have hX := sol_good hgd (fun i j hi hj => by
        show (y.getD i FQ.bad).good = true
        rw [allG_mem] at gy
        rw [List.getD_eq_getElem?_getD, List.getElem?_eq_getElem (by omega), Option.getD_some]
        exact gy _ (List.getElem_mem _)) e5
      have hall : allG (rowQ r fun i => X i 0) = true := by
        rw [allG_mem]
        intro x hx
        obtain ⟨i, hi, rfl⟩ := List.mem_map.1 hx
        exact hX i 0 (List.mem_range.1 hi) (by omega)
      have hlo : (rowQ r fun i => X i 0).length = r := rowQ_length
      replace q3 : PB PP F_impl_grid_solution [gV .b r r M, .sl .b 1 r (qs .b y)] (.tup [.rsl 0 1 0 r, Bo true]) [⟨.own, T_p_impl_ratio, qs .b (rowQ r fun i => X i 0)⟩] := q3
      generalize (rowQ r fun i => X i 0) = o at *
      refine txg W_impl_SolveSystem ke_impl_SolveSystem 0 [] [] [] rfl (by kernel_rfl) ?_
      simp -dsimp(disch:=first|exact om|fail)only[go_sem,↓reduceIte,Nat.reduceEqDiff,Nat.reduceAdd,Nat.reduceSub,Nat.reduceMul,Nat.reduceLT,Nat.reduceLeDiff,reduceCtorEq,a_eq,a_neq,a_cast0,a_pred,a_app1,a_zero,Int.reduceToNat]
      refine callB' q1 lB lF ?_
      simp -dsimp(disch:=first|exact om|fail)only[go_sem,↓reduceIte,Nat.reduceEqDiff,Nat.reduceAdd,Nat.reduceSub,Nat.reduceMul,Nat.reduceLT,Nat.reduceLeDiff,reduceCtorEq,a_eq,a_neq,a_cast0,a_pred,a_app1,a_zero,Int.reduceToNat]
      refine callB' q2 lB lF ?_
      simp -dsimp(disch:=first|exact om|fail)only[go_sem,↓reduceIte,Nat.reduceEqDiff,Nat.reduceAdd,Nat.reduceSub,Nat.reduceMul,Nat.reduceLT,Nat.reduceLeDiff,reduceCtorEq,a_eq,a_neq,a_cast0,a_pred,a_app1,a_zero,Int.reduceToNat]
      refine callB' q3 lB lF ?_
      simp -dsimp(disch:=first|exact om|fail)only[go_sem,↓reduceIte,Nat.reduceEqDiff,Nat.reduceAdd,Nat.reduceSub,Nat.reduceMul,Nat.reduceLT,Nat.reduceLeDiff,reduceCtorEq,a_eq,a_neq,a_cast0,a_pred,a_app1,a_zero,Int.reduceToNat]
      refine callO' (stores_ok .b .b flb flb o (by omega) hall) lW lF ?_
      simp -dsimp(disch:=first|exact om|fail)only[go_sem,↓reduceIte,Nat.reduceEqDiff,Nat.reduceAdd,Nat.reduceSub,Nat.reduceMul,Nat.reduceLT,Nat.reduceLeDiff,reduceCtorEq,a_eq,a_neq,a_cast0,a_pred,a_app1,a_zero,Int.reduceToNat]
      exact RtG.nothing [some 3] lE (by decide) (by simp -dsimp(disch:=first|exact om|fail)only[go_sem,↓reduceIte,Nat.reduceEqDiff,Nat.reduceAdd,Nat.reduceSub,Nat.reduceMul,Nat.reduceLT,Nat.reduceLeDiff,reduceCtorEq,a_eq,a_neq,a_cast0,a_pred,a_app1,a_zero,Int.reduceToNat, List.map_cons, List.map_nil]) lW
end Go.Proofs.YtikmepdhpffdoaaGreat
