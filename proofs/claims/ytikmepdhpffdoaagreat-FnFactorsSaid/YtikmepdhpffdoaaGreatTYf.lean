/- part of the proof -/
import Derived.Test.YtikmepdhpffdoaaGreatTYe
namespace Go.Proofs.YtikmepdhpffdoaaGreat
open Go Go.RowKit
set_option maxRecDepth 100000
set_option maxHeartbeats 4000000
set_option linter.unusedVariables false
set_option linter.unusedSimpArgs false
theorem rsC_only {l : List RD} : V.onlySL (rsC .s l) := by
  induction l with
  | nil => trivial
  | cons a l ih => exact ⟨trivial, iC_only, iC_only, ih⟩
theorem iC_ts {l : List Int} : V.tsL (iC l) = iC l := by
  induction l with
  | nil => rfl
  | cons a l ih =>
    show V.ts (I a) :: V.tsL (iC l) = I a :: iC l
    rw [ih]; rfl
theorem pQ_ts {x : FQ} : (pQ .b x).ts = pQ .s x := by
  obtain ⟨x, hx⟩ := x
  cases x with
  | none => rfl
  | some r =>
    show V.ptr .s [Bo _, .sl .s 1 _ (V.tsL (iC _)), .sl .s 1 _ (V.tsL (iC _))] = _
    rw [iC_ts, iC_ts]; rfl
theorem gC_ts {n c : Nat} {M : Nat → Nat → FQ} : V.tsL (gC .b .b n c M) = gC .s .s n c M := by
  rw [tsL_map]
  unfold gC
  rw [List.map_map]
  refine List.map_congr_left fun i _ => ?_
  show V.sl .s 1 c (V.tsL (qs .b (rowQ c (M i)))) = _
  congr 1
  rw [tsL_map]
  unfold qs
  rw [List.map_map]
  exact List.map_congr_left fun x _ => pQ_ts
theorem open_s (m : MD) (r c : Nat) (hg : m.Good r c) (hs : smallL m.cells) : PC PP F_impl_Matrix_open [mtV .s m] (.tup [gV .s r c (m.at c), Bo true]) [] := by
  have q := (open_ok m .s fls r c hg hs).shared ⟨⟨trivial, trivial, rsC_only, trivial⟩, trivial⟩ (by intro ob h; cases h)
  have e : (V.tup [gV .b r c (m.at c), Bo true]).ts = .tup [gV .s r c (m.at c), Bo true] := by
    show V.tup [.agg [I r, I c, .sl .s 1 r (V.tsL (gC .b .b r c (m.at c)))], Bo true] = _
    rw [gC_ts]
  rw [e] at q
  exact q
theorem leL_gCub {H : List Ob} {n c : Nat} {M : Nat → Nat → FQ} : LeL H .b (gC .u .s n c M) (gC .b .s n c M) := by
  induction n with
  | zero => exact .nil
  | succ n ih => rw [gC_succ, gC_succ]; exact leL_app ih (.cons _ _ _ _ (.sl _ _ _ _ _ _ rfl leL_qss) .nil)
theorem leL_gCubb {H : List Ob} {n c : Nat} {M : Nat → Nat → FQ} : LeL H .b (gC .u .s n c M) (gC .b .b n c M) := by
  induction n with
  | zero => exact .nil
  | succ n ih => rw [gC_succ, gC_succ]; exact leL_app ih (.cons _ _ _ _ (.sl _ _ _ _ _ _ rfl (leL_qsbb fls)) .nil)
theorem leL_at {H : List Ob} {f : Fl} : ∀ {L L' : List V}, L.length = L'.length → (∀ (j : Nat) (v v' : V), L[j]? = some v → L'[j]? = some v' → Le H f v v') → LeL H f L L'
  | [], [], _, _ => .nil
  | v :: L, v' :: L', hl, h => .cons _ _ _ _ (h 0 v v' rfl rfl) (leL_at (by simpa using hl) fun j w w' e1 e2 => h (j + 1) w w' (by simpa using e1) (by simpa using e2))
theorem leL_gCo {H : List Ob} {n c i id : Nat} {ty : TypeId} {M : Nat → Nat → FQ} (hi : i < n) (h : H[id]? = some ⟨.own, ty, qs .s (rowQ c (M i))⟩) : LeL H .b ((gC .u .s n c M).set i (.rsl id 1 0 c)) (gC .b .s n c M) := by
  refine leL_at (by simp [gC]) fun j v v' e1 e2 => ?_
  have hj : j < n := by have := (List.getElem?_eq_some_iff.1 e2).1; simpa [gC] using this
  rw [gC_at hj] at e2
  cases e2
  by_cases e : i = j
  · subst e
    rw [List.getElem?_set_self (by simp [gC, hi])] at e1
    cases e1
    exact .rsl id 1 0 c _ _ h (.inl rfl) (by rw [qs_length, rowQ_length]; omega) (by
      have : ((qs .s (rowQ c (M i))).drop (0 * 1)).take (c * 1) = qs .s (rowQ c (M i)) := by
        rw [Nat.zero_mul, List.drop_zero, Nat.mul_one, List.take_of_length_le (by rw [qs_length, rowQ_length]; omega)]
      rw [this]; exact leL_qss)
  · rw [List.getElem?_set_ne e, gC_at hj] at e1
    cases e1
    exact .sl _ _ _ _ _ _ rfl leL_qss
theorem fac_le {H : List Ob} {n a b : Nat} {t1 t2 t3 t4 t5 : TypeId} {X : List V} {M L : Nat → Nat → FQ} {D : Nat → FQ} (h1 : H[1]? = some ⟨.own, t1, [I n, I n, .sl .s 1 n (gC .s .s n n M)]⟩) (h2 : H[2]? = some ⟨.own, t2, X⟩)
    (h3 : H[3]? = some ⟨.own, t3, [I n, I n, .rsl 2 1 0 n]⟩) (h4 : H[4]? = some ⟨.own, t4, qs .s (rowQ n D)⟩) (h5 : H[5]? = some ⟨.own, t5, [.rsl 4 1 0 n]⟩) (hXl : X.length = n) (hX : LeL H .b X (gC .b .s n n L)) :
    LeL H .b ([] ++ [I a, I b] ++ [.ref 1 0, .ref 3 0, .ref 5 0]) [I a, I b, .ptr .b [I n, I n, .sl .s 1 n (gC .s .s n n M)], .ptr .b [I n, I n, .sl .b 1 n (gC .b .s n n L)], .ptr .b [.sl .b 1 n (qs .s (rowQ n D))]] := by
  refine .cons _ _ _ _ (.lit _) (.cons _ _ _ _ (.lit _) (.cons _ _ _ _ (.ref 1 0 _ _ h1 (.inl rfl) ?_) (.cons _ _ _ _ (.ref 3 0 _ _ h3 (.inl rfl) ?_) (.cons _ _ _ _ (.ref 5 0 _ _ h5 (.inl rfl) ?_) .nil))))
  · exact .cons _ _ _ _ (.lit _) (.cons _ _ _ _ (.lit _) (.cons _ _ _ _ (.sl _ _ _ _ _ _ (.inl rfl) leL_gCs) .nil))
  · exact .cons _ _ _ _ (.lit _) (.cons _ _ _ _ (.lit _) (.cons _ _ _ _ (.rsl 2 1 0 n _ _ h2 (.inl rfl) (by simp [hXl]) (by
      have : (X.drop (0 * 1)).take (n * 1) = X := by rw [Nat.zero_mul, List.drop_zero, Nat.mul_one, List.take_of_length_le (by omega)]
      rw [this]; exact hX)) .nil))
  · exact .cons _ _ _ _ (.rsl 4 1 0 n _ _ h4 (.inl rfl) (by rw [qs_length, rowQ_length]; omega) (by
      have : ((qs .s (rowQ n D)).drop (0 * 1)).take (n * 1) = qs .s (rowQ n D) := by rw [Nat.zero_mul, List.drop_zero, Nat.mul_one, List.take_of_length_le (by rw [qs_length, rowQ_length]; omega)]
      rw [this]; exact leL_qss)) .nil
abbrev noF : MD × List FQ × Bool := (MD.zero, [], false)
abbrev faG (p : MD × List FQ × Bool) : V := .tup [mtO p.1, .rsl 1 3 0 p.2.1.length, Bo p.2.2]
abbrev faH (p : MD × List FQ × Bool) : List Ob := [⟨.own, T_impl_Rat, rsC .u p.1.cells⟩, ⟨.own, T_impl_Rat, rsC .u (p.2.1.map qd)⟩]
noncomputable def facN (n : Nat) (M : Nat → Nat → FQ) : MD × List FQ × Bool := match facTo n M n with
  | some s => (⟨n, n, (gridL n n s.L).map qd⟩, rowQ n s.D, true)
  | none => noF
theorem facN_none {n : Nat} {M : Nat → Nat → FQ} (h : facTo n M n = none) : facN n M = noF := by unfold facN; rw [h]
theorem facN_some {n : Nat} {M : Nat → Nat → FQ} {s : FS} (h : facTo n M n = some s) : facN n M = (⟨n, n, (gridL n n s.L).map qd⟩, rowQ n s.D, true) := by unfold facN; rw [h]
noncomputable def facR (m : MD) : MD × List FQ × Bool := if symM m = true then facN m.rows.toNat (m.at m.rows.toNat) else noF
theorem rtG_noF {H : List Ob} : RtG 0 H (.tup [.agg [I 0, I 0, .emp], .emp, Bo false]) (faG noF) (faH noF) := RtG.ren [none, none] [[], []] trivial (by decide) lW lW
theorem symM_ok {m : MD} (h : symM m = true) : m.ok = true ∧ m.rows = m.cols := by
  unfold symM at h
  simp only [Bool.and_eq_true, decide_eq_true_eq] at h
  obtain ⟨ho, e⟩ := h
  obtain ⟨r, c, hg⟩ := MD.ok_good ho
  have e1 : (trM m).rows = m.cols := by
    unfold trM; rw [if_pos ho]
  exact ⟨ho, by rw [← e1, ← e]⟩
def fcM (M L : Nat → Nat → FQ) (D : Nat → FQ) (k i : Nat) : Nat → Nat → FQ := fun a j => if a < i then fcL M L D k a j else L a j
theorem fcM_zero {M L : Nat → Nat → FQ} {D : Nat → FQ} {k : Nat} : fcM M L D k (k + 1) = L := by
  funext a j
  unfold fcM fcL
  split
  · rw [if_neg (by omega)]
  · rfl
theorem rowQ_all' {c : Nat} {g : Nat → FQ} (h : ∀ i, i < c → (g i).good = true) : allG (rowQ c g) = true := by
  rw [allG_mem]
  intro x hx
  obtain ⟨k, hk, rfl⟩ := List.mem_map.1 hx
  exact h k (List.mem_range.1 hk)
theorem gC_congr {f φ : Fl} {n c : Nat} {M M' : Nat → Nat → FQ} (h : ∀ a, a < n → M a = M' a) : gC f φ n c M = gC f φ n c M' := by
  unfold gC
  exact List.map_congr_left fun a ha => by rw [h a (List.mem_range.1 ha)]
abbrev facF (n k : Nat) (M L : Nat → Nat → FQ) (D : Nat → FQ) (X : List V) : List Ob := [⟨.own, T_impl_Matrix, [I 0, I 0, .emp]⟩, ⟨.own, T_impl_grid, [I n, I n, .sl .s 1 n (gC .s .s n n M)]⟩, ⟨.own, T_sl_p_impl_ratio, X⟩, ⟨.own, T_impl_grid, [I n, I n, .rsl 2 1 0 n]⟩, ⟨.own, T_p_impl_ratio, qs .s (rowQ n D)⟩, ⟨.own, T_sl_p_impl_ratio, [.rsl 4 1 0 n]⟩]
attribute [go_sem] facF
theorem impl_Factor_s (m : MD) (hs : smallL m.cells) : GC PP F_impl_Factor [mtV .s m] [] (faG (facR m)) (faH (facR m)) := by
  refine txg W_impl_Factor ke_impl_Factor 0 [] [16] [] rfl (by kernel_rfl) ?_
  simp -dsimp(disch:=first|exact om|fail)only[go_sem,↓reduceIte,Nat.reduceEqDiff,Nat.reduceAdd,Nat.reduceSub,Nat.reduceMul,Nat.reduceLT,Nat.reduceLeDiff,reduceCtorEq,a_eq,a_neq,a_cast0,a_pred,a_app1,a_zero,Int.reduceToNat]
  refine callP (impl_IsSymmetric_c m .s fls hs) lL ?_
  cases hy : symM m
  · rw [show facR m = noF by unfold facR; rw [hy]; rfl]
    simp -dsimp(disch:=first|exact om|fail)only[go_sem,↓reduceIte,Nat.reduceEqDiff,Nat.reduceAdd,Nat.reduceSub,Nat.reduceMul,Nat.reduceLT,Nat.reduceLeDiff,reduceCtorEq,a_eq,a_neq,a_cast0,a_pred,a_app1,a_zero,Int.reduceToNat]
    exact rtG_noF
  · obtain ⟨ho, hrc⟩ := symM_ok hy
    obtain ⟨n, c, hg⟩ := MD.ok_good ho
    obtain rfl : n = c := by have := hg.er; have := hg.ec; omega
    have h24 := hg.r24
    rw [show facR m = facN n (m.at n) by unfold facR; rw [hy, hg.er]; rfl]
    simp -dsimp(disch:=first|exact om|fail)only[go_sem,↓reduceIte,Nat.reduceEqDiff,Nat.reduceAdd,Nat.reduceSub,Nat.reduceMul,Nat.reduceLT,Nat.reduceLeDiff,reduceCtorEq,a_eq,a_neq,a_cast0,a_pred,a_app1,a_zero,Int.reduceToNat]
    refine callP (open_s m n n hg hs) lL ?_
    generalize m.at n = M at *
    simp -dsimp(disch:=first|exact om|fail)only[go_sem,↓reduceIte,Nat.reduceEqDiff,Nat.reduceAdd,Nat.reduceSub,Nat.reduceMul,Nat.reduceLT,Nat.reduceLeDiff,reduceCtorEq,a_eq,a_neq,a_cast0,a_pred,a_app1,a_zero,Int.reduceToNat]
    refine callO' (identity_g n h24) lL (by intro ob hob; simp only [List.mem_cons, List.not_mem_nil, or_false] at hob; subst hob; exact ⟨by simp, gC_flat⟩) ?_
    simp -dsimp(disch:=first|exact om|fail)only[go_sem,↓reduceIte,Nat.reduceEqDiff,Nat.reduceAdd,Nat.reduceSub,Nat.reduceMul,Nat.reduceLT,Nat.reduceLeDiff,reduceCtorEq,a_eq,a_neq,a_cast0,a_pred,a_app1,a_zero,Int.reduceToNat]
    rw [qs_nil (f := .s), show List.replicate n FQ.bad = rowQ n (fun _ => FQ.bad) by unfold rowQ; simp [List.map_const']]
    refine loopJ (fun y : Nat × FS => y.1 ≤ n ∧ facTo n M y.1 = some y.2) (fun y => ⟨[(2, .ref 0 0), (5, .ref 1 0), (7, .ref 3 0), (8, .ref 5 0), (9, .fn (.func F_impl_Factor_1) [] [.ref 1 0, .ref 3 0, .ref 5 0]), (33, I n), (34, I y.1)], facF n y.1 M y.2.L y.2.D (gC .u .s n n y.2.L)⟩) (fun y => n - y.1) (0, ⟨idM, fun _ => FQ.bad⟩) ⟨by omega, rfl⟩ ?_ ?_
    · refine StI.ren [some 1, some 2, some 3, some 4, some 5, some 6] [[], [], [], [], [], []] lE (by decide) ?_ ?_
      · simp -dsimp(disch:=first|exact om|fail)only[go_sem,↓reduceIte,Nat.reduceEqDiff,Nat.reduceAdd,Nat.reduceSub,Nat.reduceMul,Nat.reduceLT,Nat.reduceLeDiff,reduceCtorEq,a_eq,a_neq,a_cast0,a_pred,a_app1,a_zero,Int.reduceToNat]
        exact RnL.same gC_flat (fun h => by cases h)
      · simp -dsimp(disch:=first|exact om|fail)only[go_sem,↓reduceIte,Nat.reduceEqDiff,Nat.reduceAdd,Nat.reduceSub,Nat.reduceMul,Nat.reduceLT,Nat.reduceLeDiff,reduceCtorEq,a_eq,a_neq,a_cast0,a_pred,a_app1,a_zero,Int.reduceToNat]
    rintro ⟨k, ⟨L, D⟩⟩ ⟨hk, hst⟩
    simp only at hk hst ⊢
    have hinv := facTo_inv hst
    by_cases h : k < n
    · have hstep : facTo n M (k + 1) = facStep n M ⟨L, D⟩ k := by
        show (match facTo n M k with | none => none | some s => facStep n M s k) = _
        rw [hst]
      have hDl : (rowQ n D).length = n := rowQ_length
      have hDs : (rowQ n D).set k (restQ M L D k k k) = rowQ n (fcD M L D k) := rowQ_upd h
      have hDg : fcD M L D k k = restQ M L D k k k := by unfold fcD; rw [if_pos rfl]; rfl
      have hXl : (gC .u .s n n L).length = n := gC_length
      simp -dsimp(disch:=first|exact om|fail)only[go_sem,↓reduceIte,Nat.reduceEqDiff,Nat.reduceAdd,Nat.reduceSub,Nat.reduceMul,Nat.reduceLT,Nat.reduceLeDiff,reduceCtorEq,a_eq,a_neq,a_cast0,a_pred,a_app1,a_zero,Int.reduceToNat]
      refine callPc (rest_d n k k h24 h h M L D) (fac_le rfl rfl rfl rfl rfl hXl leL_gCub) ?_
      obtain ⟨x, hx⟩ : ∃ x, x = restQ M L D k k k := ⟨_, rfl⟩
      rw [← hx] at hDs hDg ⊢
      cases hxg : x.good
      · rw [facN_none (facTo_none (k := k + 1) (by rw [hstep]; unfold facStep; exact if_neg (fun q => by have := q.1; unfold fcX at this; rw [← hx, hxg] at this; cases this)) (by omega))]
        simp -dsimp(disch:=first|exact om|fail)only[go_sem,↓reduceIte,Nat.reduceEqDiff,Nat.reduceAdd,Nat.reduceSub,Nat.reduceMul,Nat.reduceLT,Nat.reduceLeDiff,reduceCtorEq,a_eq,a_neq,a_cast0,a_pred,a_app1,a_zero,Int.reduceToNat, hDs, hDg, hxg]
        exact rtG_noF
      · by_cases hxp : 0 < x.num
        · have hsg : sgZ x.num = 1 := by unfold sgZ; rw [if_neg (by omega), if_neg (by omega)]
          simp -dsimp(disch:=first|exact om|fail)only[go_sem,↓reduceIte,Nat.reduceEqDiff,Nat.reduceAdd,Nat.reduceSub,Nat.reduceMul,Nat.reduceLT,Nat.reduceLeDiff,reduceCtorEq,a_eq,a_neq,a_cast0,a_pred,a_app1,a_zero,Int.reduceToNat, hDs, hDg, hxg]
          refine callP (signR_c .s fls x hxg) lL ?_
          simp -dsimp(disch:=first|exact om|fail)only[go_sem,↓reduceIte,Nat.reduceEqDiff,Nat.reduceAdd,Nat.reduceSub,Nat.reduceMul,Nat.reduceLT,Nat.reduceLeDiff,reduceCtorEq,a_eq,a_neq,a_cast0,a_pred,a_app1,a_zero,Int.reduceToNat, hsg]
          obtain ⟨D', hD'⟩ : ∃ D', D' = fcD M L D k := ⟨_, rfl⟩
          have hDj : ∀ j, j < k → D' j = D j := fun j hj => by rw [hD']; unfold fcD; rw [if_neg (by omega)]
          rw [← hD'] at hDg ⊢
          refine loopJ (fun i : Nat => k < i ∧ i ≤ n ∧ ∀ a, a < i → k < a → (fcL M L D k a k).good = true) (fun i => ⟨[(2, .ref 0 0), (5, .ref 1 0), (7, .ref 3 0), (8, .ref 5 0), (9, .fn (.func F_impl_Factor_1) [] [.ref 1 0, .ref 3 0, .ref 5 0]), (10, I k), (11, I i), (33, I n), (34, I k)], facF n k M L D' (gC .u .s n n (fcM M L D k i))⟩) (fun i => n - i) (k + 1) ⟨by omega, by omega, fun a h1 h2 => by omega⟩ ?_ ?_
          · refine StI.ren [some 0, some 1, some 2, some 3, some 4, some 5] [[], [], [], [], [], []] lE (by decide) ?_ lW
            rw [fcM_zero]
            simp -dsimp(disch:=first|exact om|fail)only[go_sem,↓reduceIte,Nat.reduceEqDiff,Nat.reduceAdd,Nat.reduceSub,Nat.reduceMul,Nat.reduceLT,Nat.reduceLeDiff,reduceCtorEq,a_eq,a_neq,a_cast0,a_pred,a_app1,a_zero,Int.reduceToNat]
            exact RnL.same gC_flat (fun h => by cases h)
          rintro i ⟨hki, hin, hgd⟩
          by_cases hi : i < n
          · obtain ⟨Lm, hLm⟩ : ∃ Lm, Lm = fcM M L D k i := ⟨_, rfl⟩
            obtain ⟨z, hz⟩ : ∃ z, z = restQ M L D i k k := ⟨_, rfl⟩
            have hzz : restQ M Lm D' i k k = z := by
              rw [hz]
              refine restQ_congr fun j hj => ⟨?_, ?_, hDj j hj⟩
              · rw [hLm]; unfold fcM; rw [if_neg (by omega)]
              · rw [hLm]; unfold fcM fcL
                split
                · rw [if_neg (by omega)]
                · first | rfl | rw [if_neg (by omega)]
            have hy : fcL M L D k i k = z.div x := by
              unfold fcL fcX
              rw [if_pos ⟨rfl, hki⟩, ← hz, ← hx]
            have hrow : (rowQ n (Lm i)).set k (z.div x) = rowQ n (fcM M L D k (i + 1) i) := by
              rw [rowQ_upd h]
              congr 1
              funext j
              by_cases e : j = k
              · rw [if_pos e, e]
                show z.div x = fcM M L D k (i + 1) i k
                unfold fcM; rw [if_pos (by omega), hy]
              · rw [if_neg e, hLm]; unfold fcM fcL
                rw [if_neg (by omega), if_pos (by omega), if_neg (fun q => e q.1)]
            have hyk : fcM M L D k (i + 1) i k = z.div x := by unfold fcM; rw [if_pos (by omega), hy]
            have hrest := rest_d n i k h24 hi h M Lm D'
            rw [hzz] at hrest
            have hcl : ∀ j, j < n → j ≠ i → fcM M L D k (i + 1) j = Lm j := fun j hj e => by
              rw [hLm]; funext b; unfold fcM
              by_cases e2 : j < i
              · rw [if_pos (by omega), if_pos e2]
              · rw [if_neg (by omega), if_neg e2]
            rw [← hLm]
            simp -dsimp(disch:=first|exact om|fail)only[go_sem,↓reduceIte,Nat.reduceEqDiff,Nat.reduceAdd,Nat.reduceSub,Nat.reduceMul,Nat.reduceLT,Nat.reduceLeDiff,reduceCtorEq,a_eq,a_neq,a_cast0,a_pred,a_app1,a_zero,Int.reduceToNat]
            refine ⟨⟨[(2, .ref 0 0), (5, .ref 1 0), (7, .ref 3 0), (8, .ref 5 0), (9, .fn (.func F_impl_Factor_1) [] [.ref 1 0, .ref 3 0, .ref 5 0]), (10, I k), (11, I i), (33, I n), (34, I k)], facF n k M L D' ((gC .u .s n n Lm).set i (.rsl 6 1 0 n)) ++ [⟨.own, T_p_impl_ratio, qs .s (rowQ n (Lm i))⟩]⟩, (StI.open 2 i rfl (gC_at hi) T_p_impl_ratio).trans (StI.ren [some 0, some 1, some 2, some 3, some 4, some 5, some 6] [[], [], [], [], [], [], []] lE (by decide) ?_ ?_), ?_⟩
            · simp -dsimp(disch:=first|exact om|fail)only[go_sem,↓reduceIte,Nat.reduceEqDiff,Nat.reduceAdd,Nat.reduceSub,Nat.reduceMul,Nat.reduceLT,Nat.reduceLeDiff,reduceCtorEq,a_eq,a_neq,a_cast0,a_pred,a_app1,a_zero,Int.reduceToNat]
              refine rnL_self fun v hv => ?_
              rcases List.mem_or_eq_of_mem_set hv with h | rfl
              · exact rn_flat (gC_flat v h)
              · exact .rsl _ _ _ _ _ _ _ rfl
            · simp -dsimp(disch:=first|exact om|fail)only[go_sem,↓reduceIte,Nat.reduceEqDiff,Nat.reduceAdd,Nat.reduceSub,Nat.reduceMul,Nat.reduceLT,Nat.reduceLeDiff,reduceCtorEq,a_eq,a_neq,a_cast0,a_pred,a_app1,a_zero,Int.reduceToNat]
            have hsl : ((gC .u .s n n Lm).set i (.rsl 6 1 0 n)).length = n := by rw [List.length_set, gC_length]
            have hget : (((gC .u .s n n Lm).set i (.rsl 6 1 0 n)).drop i)[0]? = some (.rsl 6 1 0 n) := get_set (OM.mk (by rw [gC_length]; exact hi))
            have hnu := take1_nu hget (by trivial)
            have hml : (rowQ n (Lm i)).length = n := rowQ_length
            simp -dsimp(disch:=first|exact om|fail)only[go_sem,↓reduceIte,Nat.reduceEqDiff,Nat.reduceAdd,Nat.reduceSub,Nat.reduceMul,Nat.reduceLT,Nat.reduceLeDiff,reduceCtorEq,a_eq,a_neq,a_cast0,a_pred,a_app1,a_zero,Int.reduceToNat, hget, hnu]
            refine callPc hrest (fac_le rfl rfl rfl rfl rfl hsl (leL_gCo hi rfl)) ?_
            simp -dsimp(disch:=first|exact om|fail)only[go_sem,↓reduceIte,Nat.reduceEqDiff,Nat.reduceAdd,Nat.reduceSub,Nat.reduceMul,Nat.reduceLT,Nat.reduceLeDiff,reduceCtorEq,a_eq,a_neq,a_cast0,a_pred,a_app1,a_zero,Int.reduceToNat, hDg]
            refine callP (div_c .s .s fls fls z x) lL ?_
            simp -dsimp(disch:=first|exact om|fail)only[go_sem,↓reduceIte,Nat.reduceEqDiff,Nat.reduceAdd,Nat.reduceSub,Nat.reduceMul,Nat.reduceLT,Nat.reduceLeDiff,reduceCtorEq,a_eq,a_neq,a_cast0,a_pred,a_app1,a_zero,Int.reduceToNat, hget, hnu, hrow, hyk]
            cases hyg : (z.div x).good
            · rw [facN_none (facTo_none (k := k + 1) (by rw [hstep]; unfold facStep; exact if_neg (fun q => by have := q.2.2 i hi hki; rw [show fcL M L D k i k = z.div x from hy, hyg] at this; cases this)) (by omega))]
              simp -dsimp(disch:=first|exact om|fail)only[go_sem,↓reduceIte,Nat.reduceEqDiff,Nat.reduceAdd,Nat.reduceSub,Nat.reduceMul,Nat.reduceLT,Nat.reduceLeDiff,reduceCtorEq,a_eq,a_neq,a_cast0,a_pred,a_app1,a_zero,Int.reduceToNat, hyg]
              exact rtG_noF
            · simp -dsimp(disch:=first|exact om|fail)only[go_sem,↓reduceIte,Nat.reduceEqDiff,Nat.reduceAdd,Nat.reduceSub,Nat.reduceMul,Nat.reduceLT,Nat.reduceLeDiff,reduceCtorEq,a_eq,a_neq,a_cast0,a_pred,a_app1,a_zero,Int.reduceToNat, hyg]
              refine ⟨i + 1, ⟨by omega, by omega, fun a h1 h2 => ?_⟩, by omega, ?_⟩
              · rcases Nat.lt_or_eq_of_le (Nat.le_of_lt_succ h1) with h3 | rfl
                · exact hgd a h3 h2
                · rw [hy]; exact hyg
              · refine StI.ren [some 0, some 1, some 2, some 3, some 4, some 5] [[], [], [6], [], [], []] lE (by decide) ?_ lW
                simp -dsimp(disch:=first|exact om|fail)only[go_sem,↓reduceIte,Nat.reduceEqDiff,Nat.reduceAdd,Nat.reduceSub,Nat.reduceMul,Nat.reduceLT,Nat.reduceLeDiff,reduceCtorEq,a_eq,a_neq,a_cast0,a_pred,a_app1,a_zero,Int.reduceToNat]
                exact rnL_close hi rfl (fun j hj e => hcl j hj e)
          · obtain rfl : i = n := by omega
            have hfin : facTo i M (k + 1) = some ⟨fcL M L D k, D'⟩ := by
              rw [hstep, hD']; unfold facStep
              exact if_pos ⟨by unfold fcX; rw [← hx]; exact hxg, by unfold fcX; rw [← hx]; exact hxp, fun a h1 h2 => hgd a h1 h2⟩
            simp -dsimp(disch:=first|exact om|fail)only[go_sem,↓reduceIte,Nat.reduceEqDiff,Nat.reduceAdd,Nat.reduceSub,Nat.reduceMul,Nat.reduceLT,Nat.reduceLeDiff,reduceCtorEq,a_eq,a_neq,a_cast0,a_pred,a_app1,a_zero,Int.reduceToNat]
            refine ⟨(k + 1, ⟨fcL M L D k, D'⟩), ⟨by omega, hfin⟩, by show i - (k + 1) < i - k; omega, ?_⟩
            refine StI.ren [some 0, some 1, some 2, some 3, some 4, some 5] [[], [], [], [], [], []] lE (by decide) ?_ lW
            rw [show gC .u .s i i (fcM M L D k i) = gC .u .s i i (fcL M L D k) from gC_congr fun a ha => by funext b; unfold fcM; rw [if_pos ha]]
            simp -dsimp(disch:=first|exact om|fail)only[go_sem,↓reduceIte,Nat.reduceEqDiff,Nat.reduceAdd,Nat.reduceSub,Nat.reduceMul,Nat.reduceLT,Nat.reduceLeDiff,reduceCtorEq,a_eq,a_neq,a_cast0,a_pred,a_app1,a_zero,Int.reduceToNat]
            exact RnL.same gC_flat (fun h => by cases h)
        · have hsg : sgZ x.num ≤ 0 := by unfold sgZ; split <;> (try split) <;> omega
          rw [facN_none (facTo_none (k := k + 1) (by rw [hstep]; unfold facStep; exact if_neg (fun q => by have := q.2.1; unfold fcX at this; rw [← hx] at this; exact hxp this)) (by omega))]
          simp -dsimp(disch:=first|exact om|fail)only[go_sem,↓reduceIte,Nat.reduceEqDiff,Nat.reduceAdd,Nat.reduceSub,Nat.reduceMul,Nat.reduceLT,Nat.reduceLeDiff,reduceCtorEq,a_eq,a_neq,a_cast0,a_pred,a_app1,a_zero,Int.reduceToNat, hDs, hDg, hxg]
          refine callP (signR_c .s fls x hxg) lL ?_
          simp -dsimp(disch:=first|exact om|fail)only[go_sem,↓reduceIte,Nat.reduceEqDiff,Nat.reduceAdd,Nat.reduceSub,Nat.reduceMul,Nat.reduceLT,Nat.reduceLeDiff,reduceCtorEq,a_eq,a_neq,a_cast0,a_pred,a_app1,a_zero,Int.reduceToNat]
          exact rtG_noF
    · obtain rfl : k = n := by omega
      rw [facN_some hst]
      have hall : allG (gridL k k L) = true := gridL_all fun i j hi hj => hinv.l i j hi hj
      have hall2 : allG (rowQ k D) = true := rowQ_all' fun j hj => (hinv.d j hj).1
      have hDl : (rowQ k D).length = k := rowQ_length
      have qc := closed_g k k h24 h24 .b flb L
      rw [cloQ_done, doneM, if_pos hall] at qc
      simp -dsimp(disch:=first|exact om|fail)only[go_sem,↓reduceIte,Nat.reduceEqDiff,Nat.reduceAdd,Nat.reduceSub,Nat.reduceMul,Nat.reduceLT,Nat.reduceLeDiff,reduceCtorEq,a_eq,a_neq,a_cast0,a_pred,a_app1,a_zero,Int.reduceToNat]
      refine callO' qc (.cons _ _ _ _ (.agg _ _ (.cons _ _ _ _ (.lit _) (.cons _ _ _ _ (.lit _) (.cons _ _ _ _ (.rsl 2 1 0 k _ _ rfl (.inl rfl) (by rw [gC_length]; omega) (by
        have : ((gC .u .s k k L).drop (0 * 1)).take (k * 1) = gC .u .s k k L := by rw [Nat.zero_mul, List.drop_zero, Nat.mul_one, List.take_of_length_le (by rw [gC_length]; omega)]
        rw [this]; exact leL_gCubb)) .nil)))) .nil) lF ?_
      simp -dsimp(disch:=first|exact om|fail)only[go_sem,↓reduceIte,Nat.reduceEqDiff,Nat.reduceAdd,Nat.reduceSub,Nat.reduceMul,Nat.reduceLT,Nat.reduceLeDiff,reduceCtorEq,a_eq,a_neq,a_cast0,a_pred,a_app1,a_zero,Int.reduceToNat]
      refine callO' (stores_ok .b .s flb fls (rowQ k D) (by omega) hall2) lW lF ?_
      simp -dsimp(disch:=first|exact om|fail)only[go_sem,↓reduceIte,Nat.reduceEqDiff,Nat.reduceAdd,Nat.reduceSub,Nat.reduceMul,Nat.reduceLT,Nat.reduceLeDiff,reduceCtorEq,a_eq,a_neq,a_cast0,a_pred,a_app1,a_zero,Int.reduceToNat]
      exact RtG.nothing [some 6, some 8] lE (by decide) (by simp -dsimp(disch:=first|exact om|fail)only[go_sem,↓reduceIte,Nat.reduceEqDiff,Nat.reduceAdd,Nat.reduceSub,Nat.reduceMul,Nat.reduceLT,Nat.reduceLeDiff,reduceCtorEq,a_eq,a_neq,a_cast0,a_pred,a_app1,a_zero,Int.reduceToNat, List.map_cons, List.map_nil]) lW
theorem noSL_u {l : List RD} : V.noSL (rsC .u l) := by
  have hi : ∀ l : List Int, V.noSL (iC l) := fun l => by
    induction l with
    | nil => trivial
    | cons a l ih => exact ⟨trivial, ih⟩
  induction l with
  | nil => trivial
  | cons a l ih => exact ⟨trivial, hi _, hi _, ih⟩
theorem rsC_tb {l : List RD} : V.tbL (rsC .s l) = rsC .b l := by
  induction l with
  | nil => rfl
  | cons a l ih =>
    show [V.tb (Bo _), .sl .b 1 _ (V.tbL (iC _)), .sl .b 1 _ (V.tbL (iC _))] ++ V.tbL (rsC .s l) = [Bo _, _, _] ++ rsC .b l
    rw [ih, iC_tb, iC_tb]; rfl
theorem impl_Factor_g (m : MD) (f : Fl) (hf : f ≠ .u) (hs : smallL m.cells) : GC PP F_impl_Factor [mtV f m] [] (faG (facR m)) (faH (facR m)) := by
  have q := impl_Factor_s m hs
  cases f with
  | u => exact absurd rfl hf
  | s => exact q
  | b =>
    have q2 := q.lentO ⟨⟨trivial, trivial, rsC_only, trivial⟩, trivial⟩ ⟨⟨trivial, trivial, trivial, trivial⟩, trivial, trivial, trivial⟩ (by
      intro ob hob
      simp only [List.mem_cons, List.not_mem_nil, or_false] at hob
      rcases hob with rfl | rfl
      · exact ⟨rfl, noSL_u⟩
      · exact ⟨rfl, noSL_u⟩)
    rw [show V.tbL [mtV .s m] = [mtV .b m] by show [V.agg [V.tb (I _), V.tb (I _), .sl .b 3 _ (V.tbL (rsC .s m.cells))]] = _; rw [rsC_tb]; rfl] at q2
    exact q2
end Go.Proofs.YtikmepdhpffdoaaGreat
