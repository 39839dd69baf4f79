/- part of the proof -/
import Derived.Test.YtgkimfncegbeaaaGreatTXp
namespace Go.Proofs.YtgkimfncegbeaaaGreat
open Go Go.RowKit
set_option maxRecDepth 100000
set_option maxHeartbeats 4000000
set_option linter.unusedVariables false
set_option linter.unusedSimpArgs false
theorem refTo_stop {n c : Nat} {M : Nat → Nat → FQ} {k k' : Nat} (h : ¬ ((refTo n c M k).ok = true ∧ (refTo n c M k).piv.length < n)) (hk : k ≤ k') : refTo n c M k' = refTo n c M k := by
  induction k' with
  | zero => obtain rfl : k = 0 := by omega
            rfl
  | succ k' ih =>
    rcases Nat.lt_or_eq_of_le hk with h1 | rfl
    · show (if _ then _ else _ : SS) = _
      rw [ih (by omega), if_neg h]
    · rfl
theorem refStep_M {n c : Nat} {st : SS} {k : Nat} (h : firstR st.M k st.piv.length n ≠ n) : refStep n c st k = ⟨clrS (swapM st.M (firstR st.M k st.piv.length n) st.piv.length) st.piv.length k, st.piv ++ [(k : Int)], (if firstR st.M k st.piv.length n = st.piv.length then st.fac else st.fac ++ [FQ.ofInt (-1)]) ++ [swapM st.M (firstR st.M k st.piv.length n) st.piv.length st.piv.length k], allG (gridL n c (clrS (swapM st.M (firstR st.M k st.piv.length n) st.piv.length) st.piv.length k))⟩ := by
  unfold refStep; rw [if_neg h]
theorem le_ownSB {H : List Ob} {id n : Nat} {ty : TypeId} {L : List RD} (h : H[id]? = some ⟨.own, ty, rsC .s L⟩) (hl : L.length = n) : Le H .b (.rsl id 3 0 n) (sR .b L) := by
  subst hl
  have := Le.rsl (H := H) (f := .b) id 3 0 L.length ⟨.own, ty, rsC .s L⟩ (rsC .b L) h (.inl rfl) (by simp [rsC_length]) (by
    simp only [Nat.zero_mul, List.drop_zero]
    rw [List.take_of_length_le (by simp [rsC_length])]
    exact leL_rsC fun m => Le.slSB)
  exact this
theorem Rn.rslR {H : List Ob} {js : List (Option Nat)} {bk : Bool} {id n : Nat} {ty : TypeId} {L : List RD} (h : H[id]? = some ⟨.frz, ty, rsC .s L⟩) (hn : L.length = n) : Rn H js bk (.rsl id 3 0 n) (sR .s L) [] := by
  subst hn
  have hd : ((rsC .s L).drop (0 * 3)).take (L.length * 3) = rsC .s L := by
    rw [Nat.zero_mul, List.drop_zero, List.take_of_length_le (by simp [rsC_length])]
  have := Rn.rslz (H := H) js bk id 3 0 L.length ⟨.frz, ty, rsC .s L⟩ h rfl (by simp [rsC_length]) (by
    show ∀ c ∈ ((rsC .s L).drop (0 * 3)).take (L.length * 3), c.cl
    rw [hd]; exact cl_rsC)
  dsimp only at this
  rw [hd] at this
  exact this
theorem rtG_red {ty : TypeId} {L : List RD} {o : Ob} {piv : List Int} {fac : List FQ} {a b : Nat} (ha : piv.length = a) (hb : fac.length = b) : RtG 1 [⟨.own, ty, rsC .s L⟩, o, ⟨.frz, T_int, iC piv⟩, ⟨.frz, T_impl_Rat, rsC .s (fac.map qd)⟩] (.tup [.rsl 2 1 0 a, .rsl 3 3 0 b]) (.tup [sI .s piv, sR .s (fac.map qd)]) [⟨.own, ty, rsC .s L⟩] := by
  subst ha; subst hb
  refine RtG.nothing [some 0] ⟨rfl, trivial⟩ (by decide) lW (.tup _ _ _ _ _ (.cons _ _ _ _ _ _ [] [] ?_ (.cons _ _ _ _ _ _ [] [] ?_ (.nil _ _))))
  · have := Rn.rslI (js := [some 0]) (bk := false) (H := [⟨.own, ty, rsC .s L⟩, o, ⟨.frz, T_int, iC piv⟩, ⟨.frz, T_impl_Rat, rsC .s (fac.map qd)⟩]) (id := 2) rfl (Nat.le_refl piv.length)
    rw [List.take_length] at this
    exact this
  · exact Rn.rslR rfl (by rw [List.length_map])
theorem l07Reduce_g (n c : Nat) (hn : n ≤ 24) (hc : c ≤ 64) (M : Nat → Nat → FQ) :
    GC PP F_spec_l07Reduce [.agg [I n, I c, .rsl 0 3 0 (n * c)]] [⟨.own, T_impl_Rat, rsC .s ((gridL n c M).map qd)⟩] (.tup [sI .s (refTo n c M c).piv, sR .s ((refTo n c M c).fac.map qd)]) [⟨.own, T_impl_Rat, rsC .s ((gridL n c (refTo n c M c).M).map qd)⟩] := by
  have hnc : n * c ≤ 2000 := by have := Nat.mul_le_mul hn hc; omega
  refine txg W_spec_l07Reduce ke_spec_l07Reduce 1 [(28, [2, 3]), (29, [2, 3])] [19, 28] [25] rfl (by kernel_rfl) ?_
  simp -dsimp(disch:=first|exact om|fail)only[go_sem,↓reduceIte,Nat.reduceEqDiff,Nat.reduceAdd,Nat.reduceSub,Nat.reduceMul,Nat.reduceLT,Nat.reduceLeDiff,reduceCtorEq,a_eq,a_neq,a_cast0,a_pred,a_app1,a_zero,Int.reduceToNat]
  refine loopJ (fun y : Nat × SS => y.1 ≤ c ∧ refTo n c M y.1 = y.2 ∧ y.2.ok = true ∧ y.2.piv.length ≤ n ∧ y.2.fac.length ≤ 2 * y.1) (fun y => ⟨[(1, .ref 1 0), (4, .rsl 2 1 0 y.2.piv.length), (5, .rsl 3 3 0 y.2.fac.length), (6, I y.1)], [⟨.own, T_impl_Rat, rsC .s ((gridL n c y.2.M).map qd)⟩, ⟨.own, T_impl_Matrix, [I n, I c, .rsl 0 3 0 (n * c)]⟩, ⟨.own, T_int, iC y.2.piv⟩, ⟨.own, T_impl_Rat, rsC .s (y.2.fac.map qd)⟩]⟩) (fun y => c - y.1) (0, ⟨M, [], [], true⟩) ⟨by omega, rfl, rfl, by simp, by simp⟩ ?_ ?_
  · exact StI.ren [some 0, some 1, none, none] [[], [], [], []] ⟨rfl, trivial⟩ (by decide) (by simp -dsimp(disch:=first|exact om|fail)only[go_sem,↓reduceIte,Nat.reduceEqDiff,Nat.reduceAdd,Nat.reduceSub,Nat.reduceMul,Nat.reduceLT,Nat.reduceLeDiff,reduceCtorEq,a_eq,a_neq,a_cast0,a_pred,a_app1,a_zero,Int.reduceToNat]; rfl) lW
  rintro ⟨k, st⟩ ⟨hk, hst, hok, hpl, hfl⟩
  simp only at hk hst hok hpl hfl ⊢
  by_cases hrun : k < c ∧ st.piv.length < n
  · obtain ⟨h, hp⟩ := hrun
    have hs : refTo n c M (k + 1) = refStep n c st k := by
      show (if _ then _ else _ : SS) = _
      rw [hst, if_pos ⟨hok, hp⟩]
    obtain ⟨A, piv, fac, ok⟩ := st
    simp only at hp hpl hok hfl hs
    obtain ⟨np, hnp⟩ : ∃ np, np = piv.length := ⟨_, rfl⟩
    have hlA : ((gridL n c A).map qd).length = n * c := by rw [List.length_map, gridL_length]
    simp -dsimp(disch:=first|exact om|fail)only[go_sem,↓reduceIte,Nat.reduceEqDiff,Nat.reduceAdd,Nat.reduceSub,Nat.reduceMul,Nat.reduceLT,Nat.reduceLeDiff,reduceCtorEq,a_eq,a_neq,a_cast0,a_pred,a_app1,a_zero,Int.reduceToNat]
    refine loopJ (fun j : Nat => piv.length ≤ j ∧ j ≤ n ∧ ∀ i, piv.length ≤ i → i < j → (A i k).num = 0) (fun j => ⟨[(1, .ref 1 0), (4, .rsl 2 1 0 piv.length), (5, .rsl 3 3 0 fac.length), (6, I k), (7, I piv.length), (8, I j)], [⟨.own, T_impl_Rat, rsC .s ((gridL n c A).map qd)⟩, ⟨.own, T_impl_Matrix, [I n, I c, .rsl 0 3 0 (n * c)]⟩, ⟨.own, T_int, iC piv⟩, ⟨.own, T_impl_Rat, rsC .s (fac.map qd)⟩]⟩) (fun j => n - j) piv.length ⟨by omega, by omega, fun i h1 h2 => by omega⟩ ?_ ?_
    · exact StI.ren [some 0, some 1, some 2, some 3] [[], [], [], []] ⟨rfl, trivial⟩ (by decide) lW lW
    rintro j ⟨hj1, hj2, hz⟩
    by_cases hjn : j < n
    · have q1 := l06At_s n c hnc A j k hjn h
      simp -dsimp(disch:=first|exact om|fail)only[go_sem,↓reduceIte,Nat.reduceEqDiff,Nat.reduceAdd,Nat.reduceSub,Nat.reduceMul,Nat.reduceLT,Nat.reduceLeDiff,reduceCtorEq,a_eq,a_neq,a_cast0,a_pred,a_app1,a_zero,Int.reduceToNat]
      refine callP q1 (le_at rfl hlA) ?_
      simp -dsimp(disch:=first|exact om|fail)only[go_sem,↓reduceIte,Nat.reduceEqDiff,Nat.reduceAdd,Nat.reduceSub,Nat.reduceMul,Nat.reduceLT,Nat.reduceLeDiff,reduceCtorEq,a_eq,a_neq,a_cast0,a_pred,a_app1,a_zero,Int.reduceToNat]
      refine callP (l05Nil_c .s fls (A j k)) lL ?_
      by_cases hz0 : (A j k).num = 0
      · simp -dsimp(disch:=first|exact om|fail)only[go_sem,↓reduceIte,Nat.reduceEqDiff,Nat.reduceAdd,Nat.reduceSub,Nat.reduceMul,Nat.reduceLT,Nat.reduceLeDiff,reduceCtorEq,a_eq,a_neq,a_cast0,a_pred,a_app1,a_zero,Int.reduceToNat, hz0]
        refine ⟨j + 1, ⟨by omega, by omega, fun i h1 h2 => ?_⟩, by omega, StI.ren [some 0, some 1, some 2, some 3] [[], [], [], []] ⟨rfl, trivial⟩ (by decide) lW lW⟩
        rcases Nat.lt_or_eq_of_le (Nat.le_of_lt_succ h2) with h3 | rfl
        · exact hz i h1 h3
        · exact hz0
      · have hf : firstR A k piv.length n = j := firstR_eq ⟨hj1, hj2, hz, fun _ => hz0⟩
        have hjn' : ¬ (j : Int) = (n : Int) := by omega
        rw [refStep_M (by show firstR A k piv.length n ≠ n; rw [hf]; omega)] at hs
        simp only [hf] at hs
        obtain ⟨S, hS⟩ : ∃ S, S = swapM A j piv.length := ⟨_, rfl⟩
        obtain ⟨fac1, hfac⟩ : ∃ fac1, fac1 = if j = piv.length then fac else fac ++ [FQ.ofInt (-1)] := ⟨_, rfl⟩
        rw [← hS, ← hfac] at hs
        have hf1 : fac1.length ≤ 2 * k + 1 := by
          rw [hfac]; split
          · omega
          · rw [List.length_append]; show fac.length + 1 ≤ _; omega
        rw [← hnp] at hp hj1 hz hf ⊢
        simp -dsimp(disch:=first|exact om|fail)only[go_sem,↓reduceIte,Nat.reduceEqDiff,Nat.reduceAdd,Nat.reduceSub,Nat.reduceMul,Nat.reduceLT,Nat.reduceLeDiff,reduceCtorEq,a_eq,a_neq,a_cast0,a_pred,a_app1,a_zero,Int.reduceToNat, hz0, hjn']
        apply cutL (s := ⟨[(1, .ref 1 0), (4, .rsl 2 1 0 np), (5, .rsl 3 3 0 fac1.length), (6, I k), (7, I np)], [⟨.own, T_impl_Rat, rsC .s ((gridL n c S).map qd)⟩, ⟨.own, T_impl_Matrix, [I n, I c, .rsl 0 3 0 (n * c)]⟩, ⟨.own, T_int, iC piv⟩, ⟨.own, T_impl_Rat, rsC .s (fac1.map qd)⟩]⟩)
        · intro main
          by_cases hjp : j = np
          · have hjp' : (j : Int) = (np : Int) := by omega
            have hSA : S = A := by
              rw [hS, ← hnp, hjp]; funext i; unfold swapM
              split
              · rename_i e; rw [e]
              · rfl
            have hff : fac1 = fac := by rw [hfac, ← hnp, if_pos hjp]
            simp -dsimp(disch:=first|exact om|fail)only[go_sem,↓reduceIte,Nat.reduceEqDiff,Nat.reduceAdd,Nat.reduceSub,Nat.reduceMul,Nat.reduceLT,Nat.reduceLeDiff,reduceCtorEq,a_eq,a_neq,a_cast0,a_pred,a_app1,a_zero,Int.reduceToNat]
            refine ⟨_, ?_, main⟩
            rw [hSA, hff]
            exact StI.ren [some 0, some 1, some 2, some 3] [[], [], [], []] ⟨rfl, trivial⟩ (by decide) lW lW
          · have hjp' : ¬ (j : Int) = (np : Int) := by omega
            have hff : fac1 = fac ++ [FQ.ofInt (-1)] := by rw [hfac, ← hnp, if_neg hjp]
            have hfl1 : fac1.length = fac.length + 1 := by rw [hff, List.length_append]; rfl
            have hpush : rsC .s (fac.map qd) ++ [Bo (qd (FQ.ofInt (-1))).neg, sI .s (qd (FQ.ofInt (-1))).mag, sI .s (qd (FQ.ofInt (-1))).den] = rsC .s (fac1.map qd) := by
              rw [rs_app, hff, List.map_append]; rfl
            simp -dsimp(disch:=first|exact om|fail)only[go_sem,↓reduceIte,Nat.reduceEqDiff,Nat.reduceAdd,Nat.reduceSub,Nat.reduceMul,Nat.reduceLT,Nat.reduceLeDiff,reduceCtorEq,a_eq,a_neq,a_cast0,a_pred,a_app1,a_zero,Int.reduceToNat, hjp']
            refine callP (spec_RatFromInt_c (-1) (by omega)) lL ?_
            simp -dsimp(disch:=first|exact om|fail)only[go_sem,↓reduceIte,Nat.reduceEqDiff,Nat.reduceAdd,Nat.reduceSub,Nat.reduceMul,Nat.reduceLT,Nat.reduceLeDiff,reduceCtorEq,a_eq,a_neq,a_cast0,a_pred,a_app1,a_zero,Int.reduceToNat, hpush]
            obtain ⟨F, hF⟩ : ∃ F : Nat → Nat → Nat → FQ, F = fun b a e => if e < b then S a e else A a e := ⟨_, rfl⟩
            have hF0 : F 0 = A := by rw [hF]; funext a e; simp
            have hFc : gridL n c (F c) = gridL n c S := gridL_congr fun a e ha he => by rw [hF]; simp [he]
            have hFb : ∀ b a, F b a b = A a b := fun b a => by rw [hF]; simp
            have hFs : ∀ b, gridL n c (upd2 (upd2 (F b) j b (A np b)) np b (A j b)) = gridL n c (F (b + 1)) := fun b => gridL_congr fun a e ha he => by
              rw [hF, hS, ← hnp]; unfold upd2 swapM; simp only
              by_cases q : e = b
              · subst q
                rw [if_pos (Nat.lt_succ_self _)]
                by_cases q1 : a = np
                · rw [q1, if_pos ⟨rfl, rfl⟩, if_neg (Ne.symm hjp), if_pos rfl]
                · rw [if_neg (fun z => q1 z.1)]
                  by_cases q2 : a = j
                  · rw [if_pos ⟨q2, rfl⟩, if_pos q2]
                  · rw [if_neg (fun z => q2 z.1), if_neg (Nat.lt_irrefl _), if_neg q2, if_neg q1]
              · by_cases q3 : e < b
                · simp [q, q3, show e < b + 1 by omega]
                · simp [q, q3, show ¬ e < b + 1 by omega]
            clear hF
            refine loopJ (fun b : Nat => b ≤ c) (fun b => ⟨[(1, .ref 1 0), (4, .rsl 2 1 0 np), (5, .rsl 3 3 0 fac1.length), (6, I k), (7, I np), (8, I j), (9, I b)], [⟨.own, T_impl_Rat, rsC .s ((gridL n c (F b)).map qd)⟩, ⟨.own, T_impl_Matrix, [I n, I c, .rsl 0 3 0 (n * c)]⟩, ⟨.own, T_int, iC piv⟩, ⟨.own, T_impl_Rat, rsC .s (fac1.map qd)⟩]⟩) (fun b => c - b) 0 (by omega) ?_ ?_
            · rw [hF0]
              exact StI.ren [some 0, some 1, some 2, some 4] [[], [], [], []] ⟨rfl, trivial⟩ (by decide) lW (by simp -dsimp(disch:=first|exact om|fail)only[go_sem,↓reduceIte,Nat.reduceEqDiff,Nat.reduceAdd,Nat.reduceSub,Nat.reduceMul,Nat.reduceLT,Nat.reduceLeDiff,reduceCtorEq,a_eq,a_neq,a_cast0,a_pred,a_app1,a_zero,Int.reduceToNat]; omega)
            intro b hb
            by_cases hbc : b < c
            · have i1 := ix_lt hjn hbc
              have i2 := ix_lt hp hbc
              have e1 : (j : Int) * (c : Int) = ((j * c : Nat) : Int) := by rw [Int.natCast_mul]
              have e2 : ((j * c : Nat) : Int) + (b : Int) = ((j * c + b : Nat) : Int) := by omega
              have e3 : (np : Int) * (c : Int) = ((np * c : Nat) : Int) := by rw [Int.natCast_mul]
              have e4 : ((np * c : Nat) : Int) + (b : Int) = ((np * c + b : Nat) : Int) := by omega
              have hlF : ((gridL n c (F b)).map qd).length = n * c := by rw [List.length_map, gridL_length]
              have g1 := gcs_get (N := F b) hjn hbc
              have g2 := gcs_get (N := F b) hp hbc
              rw [hFb] at g1 g2
              have s1 := gcs_set (N := F b) (x := A np b) hjn hbc
              have s2 := gcs_set (N := upd2 (F b) j b (A np b)) (x := A j b) hp hbc
              rw [hFs] at s2
              simp -dsimp(disch:=first|exact om|fail)only[go_sem,↓reduceIte,Nat.reduceEqDiff,Nat.reduceAdd,Nat.reduceSub,Nat.reduceMul,Nat.reduceLT,Nat.reduceLeDiff,reduceCtorEq,a_eq,a_neq,a_cast0,a_pred,a_app1,a_zero,Int.reduceToNat, e1, e2, e3, e4, g1, g2, s1, s2]
              exact ⟨b + 1, by omega, by omega, StI.ren [some 0, some 1, some 2, some 3] [[], [], [], []] ⟨rfl, trivial⟩ (by decide) lW lW⟩
            · obtain rfl : b = c := by omega
              rw [hFc]
              simp -dsimp(disch:=first|exact om|fail)only[go_sem,↓reduceIte,Nat.reduceEqDiff,Nat.reduceAdd,Nat.reduceSub,Nat.reduceMul,Nat.reduceLT,Nat.reduceLeDiff,reduceCtorEq,a_eq,a_neq,a_cast0,a_pred,a_app1,a_zero,Int.reduceToNat]
              refine ⟨_, ?_, main⟩
              exact StI.ren [some 0, some 1, some 2, some 3] [[], [], [], []] ⟨rfl, trivial⟩ (by decide) lW lW
        · have hlS : ((gridL n c S).map qd).length = n * c := by rw [List.length_map, gridL_length]
          have q2 := l06At_s n c hnc S np k hp h
          obtain ⟨p, hpp⟩ : ∃ p, p = S np k := ⟨_, rfl⟩
          rw [← hpp] at q2
          have hpush : rsC .s (fac1.map qd) ++ [Bo (qd p).neg, sI .s (qd p).mag, sI .s (qd p).den] = rsC .s ((fac1 ++ [p]).map qd) := by
            rw [rs_app, List.map_append]; rfl
          have hfl2 : (fac1 ++ [p]).length = fac1.length + 1 := by rw [List.length_append]; rfl
          simp -dsimp(disch:=first|exact om|fail)only[go_sem,↓reduceIte,Nat.reduceEqDiff,Nat.reduceAdd,Nat.reduceSub,Nat.reduceMul,Nat.reduceLT,Nat.reduceLeDiff,reduceCtorEq,a_eq,a_neq,a_cast0,a_pred,a_app1,a_zero,Int.reduceToNat]
          refine callP q2 (le_at rfl hlS) ?_
          simp -dsimp(disch:=first|exact om|fail)only[go_sem,↓reduceIte,Nat.reduceEqDiff,Nat.reduceAdd,Nat.reduceSub,Nat.reduceMul,Nat.reduceLT,Nat.reduceLeDiff,reduceCtorEq,a_eq,a_neq,a_cast0,a_pred,a_app1,a_zero,Int.reduceToNat, hpush]
          obtain ⟨G, hG⟩ : ∃ G : Nat → Nat → Nat → FQ, G = fun e a b => if a = np ∧ k ≤ b ∧ b < e then (S np b).div p else S a b := ⟨_, rfl⟩
          obtain ⟨D, hD⟩ : ∃ D : Nat → Nat → FQ, D = fun a b => if a = np then rowS S np k b else S a b := ⟨_, rfl⟩
          have hGk : G k = S := by rw [hG]; funext a b; simp only; rw [if_neg (by omega)]
          have hGc : gridL n c (G c) = gridL n c D := gridL_congr fun a b ha hb => by
            rw [hG, hD]; unfold rowS; rw [← hpp]; simp only
            by_cases q : a = np
            · by_cases q2 : b < k
              · rw [if_pos q, if_pos q2, if_neg (fun z => by omega), q]
              · rw [if_pos q, if_neg q2, if_pos ⟨q, by omega, hb⟩]
            · rw [if_neg q, if_neg (fun z => q z.1)]
          have hGe : ∀ e, G e np e = S np e := fun e => by rw [hG]; simp only; rw [if_neg (by omega)]
          have hGs : ∀ e, k ≤ e → gridL n c (upd2 (G e) np e ((S np e).div p)) = gridL n c (G (e + 1)) := fun e he => gridL_congr fun a b ha hb => by
            rw [hG]; unfold upd2; simp only
            by_cases q : a = np ∧ b = e
            · obtain ⟨rfl, rfl⟩ := q
              simp only [and_self, if_true, true_and]
              rw [if_pos ⟨he, by omega⟩]
            · rw [if_neg q]
              by_cases q2 : a = np ∧ k ≤ b ∧ b < e
              · rw [if_pos q2, if_pos ⟨q2.1, q2.2.1, by omega⟩]
              · rw [if_neg q2, if_neg (fun q3 => by
                  by_cases q4 : b = e
                  · exact q ⟨q3.1, q4⟩
                  · exact q2 ⟨q3.1, q3.2.1, by omega⟩)]
          have hDT : gridL n c (clrD D np k) = gridL n c (clrS S np k) := gridL_congr fun a b ha hb => by
            rw [hD]; unfold clrD clrS
            by_cases q : a = np
            · simp only [q, if_true]
            · simp only [q, if_false, if_true]
          clear hG hD
          refine loopJ (fun e : Nat => k ≤ e ∧ e ≤ c) (fun e => ⟨[(1, .ref 1 0), (4, .rsl 2 1 0 np), (5, .rsl 3 3 0 (fac1.length + 1)), (6, I k), (7, I np), (11, .ref 4 0), (12, I e)], [⟨.own, T_impl_Rat, rsC .s ((gridL n c (G e)).map qd)⟩, ⟨.own, T_impl_Matrix, [I n, I c, .rsl 0 3 0 (n * c)]⟩, ⟨.own, T_int, iC piv⟩, ⟨.own, T_impl_Rat, rsC .s ((fac1 ++ [p]).map qd)⟩, ⟨.own, T_impl_Rat, [Bo (qd p).neg, sI .s (qd p).mag, sI .s (qd p).den]⟩]⟩) (fun e => c - e) k ⟨by omega, by omega⟩ ?_ ?_
          · rw [hGk]
            exact StI.ren [some 0, some 1, some 2, some 5, some 4] [[], [], [], [], []] ⟨rfl, trivial⟩ (by decide) lW lW
          rintro e ⟨he1, he2⟩
          by_cases hec : e < c
          · have i2 := ix_lt hp hec
            have e3 : (np : Int) * (c : Int) = ((np * c : Nat) : Int) := by rw [Int.natCast_mul]
            have e4 : ((np * c : Nat) : Int) + (e : Int) = ((np * c + e : Nat) : Int) := by omega
            have hlG : ((gridL n c (G e)).map qd).length = n * c := by rw [List.length_map, gridL_length]
            have q3 := l06At_s n c hnc (G e) np e hp hec
            rw [hGe] at q3
            have s1 := gcs_set (N := G e) (x := (S np e).div p) hp hec
            rw [hGs e he1] at s1
            simp -dsimp(disch:=first|exact om|fail)only[go_sem,↓reduceIte,Nat.reduceEqDiff,Nat.reduceAdd,Nat.reduceSub,Nat.reduceMul,Nat.reduceLT,Nat.reduceLeDiff,reduceCtorEq,a_eq,a_neq,a_cast0,a_pred,a_app1,a_zero,Int.reduceToNat, e3, e4]
            refine callP q3 (le_at rfl hlG) ?_
            simp -dsimp(disch:=first|exact om|fail)only[go_sem,↓reduceIte,Nat.reduceEqDiff,Nat.reduceAdd,Nat.reduceSub,Nat.reduceMul,Nat.reduceLT,Nat.reduceLeDiff,reduceCtorEq,a_eq,a_neq,a_cast0,a_pred,a_app1,a_zero,Int.reduceToNat]
            refine callP (l05Div_c .s .s fls fls (S np e) p) lL ?_
            simp -dsimp(disch:=first|exact om|fail)only[go_sem,↓reduceIte,Nat.reduceEqDiff,Nat.reduceAdd,Nat.reduceSub,Nat.reduceMul,Nat.reduceLT,Nat.reduceLeDiff,reduceCtorEq,a_eq,a_neq,a_cast0,a_pred,a_app1,a_zero,Int.reduceToNat, e3, e4, s1]
            exact ⟨e + 1, ⟨by omega, by omega⟩, by omega, StI.ren [some 0, some 1, some 2, some 3, some 4] [[], [], [], [], []] ⟨rfl, trivial⟩ (by decide) lW lW⟩
          · obtain rfl : e = c := by omega
            rw [hGc]
            have qc := l07Clear_g n e hn hc D np k hp h
            rw [hDT] at qc
            simp -dsimp(disch:=first|exact om|fail)only[go_sem,↓reduceIte,Nat.reduceEqDiff,Nat.reduceAdd,Nat.reduceSub,Nat.reduceMul,Nat.reduceLT,Nat.reduceLeDiff,reduceCtorEq,a_eq,a_neq,a_cast0,a_pred,a_app1,a_zero,Int.reduceToNat]
            refine callG' [0] qc (by decide) lL lL lE lF ?_
            simp -dsimp(disch:=first|exact om|fail)only[go_sem,↓reduceIte,Nat.reduceEqDiff,Nat.reduceAdd,Nat.reduceSub,Nat.reduceMul,Nat.reduceLT,Nat.reduceLeDiff,reduceCtorEq,a_eq,a_neq,a_cast0,a_pred,a_app1,a_zero,Int.reduceToNat]
            refine ⟨hnp.symm, ?_⟩
            have hll : (gridL n e (clrS S np k)).length ≤ 1048576 := by rw [gridL_length]; omega
            refine callP (l05Fine_c .b flb (gridL n e (clrS S np k)) hll) (.cons _ _ _ _ (le_ownSB rfl (by rw [List.length_map, gridL_length])) .nil) ?_
            rw [← hnp, ← hpp] at hs
            cases hok2 : allG (gridL n e (clrS S np k))
            · rw [hok2] at hs
              have hall : refTo n e M e = refTo n e M (k + 1) := refTo_stop (by rw [hs]; exact fun z => Bool.false_ne_true z.1) (by omega)
              rw [hall, hs]
              have hpl2 : (piv ++ [(k : Int)]).length = np + 1 := by rw [List.length_append, ← hnp]; rfl
              simp -dsimp(disch:=first|exact om|fail)only[go_sem,↓reduceIte,Nat.reduceEqDiff,Nat.reduceAdd,Nat.reduceSub,Nat.reduceMul,Nat.reduceLT,Nat.reduceLeDiff,reduceCtorEq,a_eq,a_neq,a_cast0,a_pred,a_app1,a_zero,Int.reduceToNat]
              refine ⟨⟨[(4, .rsl 2 1 0 (np + 1)), (5, .rsl 3 3 0 (fac1.length + 1))], [⟨.own, T_impl_Rat, rsC .s ((gridL n e (clrS S np k)).map qd)⟩, ⟨.own, T_impl_Matrix, [I n, I e, .rsl 0 3 0 (n * e)]⟩, ⟨.own, T_int, iC (piv ++ [(k : Int)])⟩, ⟨.own, T_impl_Rat, rsC .s ((fac1 ++ [p]).map qd)⟩]⟩, StI.ren [some 0, some 1, some 6, some 3] [[], [], [], []] ⟨rfl, trivial⟩ (by decide) lW lW, ?_⟩
              simp -dsimp(disch:=first|exact om|fail)only[go_sem,↓reduceIte,Nat.reduceEqDiff,Nat.reduceAdd,Nat.reduceSub,Nat.reduceMul,Nat.reduceLT,Nat.reduceLeDiff,reduceCtorEq,a_eq,a_neq,a_cast0,a_pred,a_app1,a_zero,Int.reduceToNat]
              exact rtG_red hpl2 hfl2
            · rw [hok2] at hs
              have hpl2 : (piv ++ [(k : Int)]).length = np + 1 := by rw [List.length_append, ← hnp]; rfl
              simp -dsimp(disch:=first|exact om|fail)only[go_sem,↓reduceIte,Nat.reduceEqDiff,Nat.reduceAdd,Nat.reduceSub,Nat.reduceMul,Nat.reduceLT,Nat.reduceLeDiff,reduceCtorEq,a_eq,a_neq,a_cast0,a_pred,a_app1,a_zero,Int.reduceToNat]
              refine ⟨(k + 1, ⟨clrS S np k, piv ++ [(k : Int)], fac1 ++ [p], true⟩), ⟨by omega, hs, rfl, by show (piv ++ [(k : Int)]).length ≤ n; omega, by show (fac1 ++ [p]).length ≤ 2 * (k + 1); omega⟩, by show e - (k + 1) < e - k; omega, ?_⟩
              simp only [hpl2, hfl2]
              exact StI.ren [some 0, some 1, some 6, some 3] [[], [], [], []] ⟨rfl, trivial⟩ (by decide) lW lW
    · obtain rfl : j = n := by omega
      have hf : firstR A k piv.length j = j := firstR_eq ⟨hj1, hj2, hz, fun h => absurd h (by omega)⟩
      simp -dsimp(disch:=first|exact om|fail)only[go_sem,↓reduceIte,Nat.reduceEqDiff,Nat.reduceAdd,Nat.reduceSub,Nat.reduceMul,Nat.reduceLT,Nat.reduceLeDiff,reduceCtorEq,a_eq,a_neq,a_cast0,a_pred,a_app1,a_zero,Int.reduceToNat]
      refine ⟨(k + 1, ⟨A, piv, fac, ok⟩), ⟨by omega, by rw [hs]; unfold refStep; exact if_pos hf, hok, hpl, by show fac.length ≤ 2 * (k + 1); omega⟩, by show c - (k + 1) < c - k; omega, StI.ren [some 0, some 1, some 2, some 3] [[], [], [], []] ⟨rfl, trivial⟩ (by decide) lW lW⟩
  · have hall : refTo n c M c = st := by
      rcases Nat.lt_or_eq_of_le hk with h1 | h1
      · rw [refTo_stop (k := k) (by rw [hst]; exact fun q => hrun ⟨h1, q.2⟩) hk, hst]
      · rw [← hst, h1]
    rw [hall]
    by_cases hkc : k < c
    · have hpn : ¬ st.piv.length < n := fun q => hrun ⟨hkc, q⟩
      simp -dsimp(disch:=first|exact om|fail)only[go_sem,↓reduceIte,Nat.reduceEqDiff,Nat.reduceAdd,Nat.reduceSub,Nat.reduceMul,Nat.reduceLT,Nat.reduceLeDiff,reduceCtorEq,a_eq,a_neq,a_cast0,a_pred,a_app1,a_zero,Int.reduceToNat]
      exact rtG_red rfl rfl
    · simp -dsimp(disch:=first|exact om|fail)only[go_sem,↓reduceIte,Nat.reduceEqDiff,Nat.reduceAdd,Nat.reduceSub,Nat.reduceMul,Nat.reduceLT,Nat.reduceLeDiff,reduceCtorEq,a_eq,a_neq,a_cast0,a_pred,a_app1,a_zero,Int.reduceToNat]
      exact rtG_red rfl rfl
end Go.Proofs.YtgkimfncegbeaaaGreat
