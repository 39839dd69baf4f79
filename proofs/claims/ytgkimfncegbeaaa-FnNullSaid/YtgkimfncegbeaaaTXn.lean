/- part of the proof -/
import Derived.Test.YtgkimfncegbeaaaTXm
namespace Go.Proofs.Ytgkimfncegbeaaa
open Go Go.RowKit
set_option maxRecDepth 100000
set_option maxHeartbeats 4000000
set_option linter.unusedVariables false
set_option linter.unusedSimpArgs false
noncomputable def redTo (n c : Nat) (M : Nat → Nat → FQ) : Nat → Option RS
  | 0 => some ⟨M, [], FQ.ofInt 1⟩
  | k + 1 => match redTo n c M k with
    | none => none
    | some st => if st.piv.length < n then redStep n c st k else some st
theorem redTo_none {n c : Nat} {M : Nat → Nat → FQ} {k k' : Nat} (h : redTo n c M k = none) (hk : k ≤ k') : redTo n c M k' = none := by
  induction k' with
  | zero => obtain rfl : k = 0 := by omega
            exact h
  | succ k' ih =>
    rcases Nat.lt_or_eq_of_le hk with h1 | rfl
    · unfold redTo; rw [ih (by omega)]
    · exact h
theorem redTo_full {n c : Nat} {M : Nat → Nat → FQ} {k k' : Nat} {st : RS} (h : redTo n c M k = some st) (hp : ¬ st.piv.length < n) (hk : k ≤ k') : redTo n c M k' = some st := by
  induction k' with
  | zero => obtain rfl : k = 0 := by omega
            exact h
  | succ k' ih =>
    rcases Nat.lt_or_eq_of_le hk with h1 | rfl
    · unfold redTo; rw [ih (by omega)]; exact if_neg hp
    · exact h
structure RS.Inv (n c k : Nat) (st : RS) : Prop where
  pl : st.piv.length ≤ n
  good : ∀ i j, i < n → j < c → (st.M i j).good = true
theorem redStep_inv {n c k : Nat} {st st' : RS} (h : redStep n c st k = some st') (hi : st.Inv n c k) (hp : st.piv.length < n) : st'.Inv n c (k + 1) := by
  unfold redStep at h
  split at h
  · cases h; exact ⟨hi.pl, hi.good⟩
  · simp only at h
    split at h
    · rename_i hg
      cases h
      refine ⟨by simp; omega, fun i j h1 h2 => ?_⟩
      rw [allG_mem] at hg
      exact hg _ (List.mem_flatMap.2 ⟨i, List.mem_range.2 h1, List.mem_map.2 ⟨j, List.mem_range.2 h2, rfl⟩⟩)
    · cases h
theorem redTo_inv {n c : Nat} {M : Nat → Nat → FQ} (hg : ∀ i j, i < n → j < c → (M i j).good = true) : ∀ {k : Nat} {st : RS}, redTo n c M k = some st → st.Inv n c k
  | 0, st, h => by cases h; exact ⟨by simp, hg⟩
  | k + 1, st, h => by
    unfold redTo at h
    cases e : redTo n c M k with
    | none => rw [e] at h; cases h
    | some s =>
      rw [e] at h
      simp only at h
      have hi := redTo_inv hg e
      split at h
      · exact redStep_inv h hi (by assumption)
      · cases h; exact ⟨hi.pl, hi.good⟩
theorem leL_gCs {H : List Ob} {f : Fl} {n c : Nat} {M : Nat → Nat → FQ} : LeL H f (gC .s .s n c M) (gC .s .s n c M) := by
  induction n with
  | zero => exact .nil
  | succ n ih => rw [gC_succ]; exact leL_app ih (.cons _ _ _ _ (.sl _ _ _ _ _ _ (.inl rfl) leL_qss) .nil)
theorem gC_cl {n c : Nat} {M : Nat → Nat → FQ} : ∀ v ∈ gC .s .s n c M, v.cl := fun v hv => by
  obtain ⟨i, rfl⟩ := gC_mem hv
  trivial
theorem reduce1_b (n c : Nat) (hn : n ≤ 24) (hc : c ≤ 64) (M : Nat → Nat → FQ) (i k : Nat) (hi : i < n) (hk : k < c) :
    PB PP F_impl_grid_reduce_1 [I i, I k, .ptr .s [I n, I c, .sl .s 1 n (gC .s .s n c M)]] (pQ .s (M i k)) [] := by
  refine txb W_impl_grid_reduce_1 ke_impl_grid_reduce_1 [] [] [] (by kernel_rfl) ?_
  simp -dsimp(disch:=first|exact om|fail)only[go_sem,↓reduceIte,Nat.reduceEqDiff,Nat.reduceAdd,Nat.reduceSub,Nat.reduceMul,Nat.reduceLT,Nat.reduceLeDiff,reduceCtorEq,a_eq,a_neq,a_cast0,a_pred,a_app1,a_zero,Int.reduceToNat]
  exact RtB.nothing [] (by decide) trivial lW
theorem rn_rslG {H : List Ob} {js : List (Option Nat)} {bk : Bool} {id n : Nat} {ty : TypeId} {cs : List V} (h : H[id]? = some ⟨.frz, ty, cs⟩) (hl : cs.length = n) (hc : ∀ v ∈ cs, v.cl) : Rn H js bk (.rsl id 1 0 n) (.sl .s 1 n cs) [] := by
  have q := Rn.rslz (H := H) js bk id 1 0 n ⟨.frz, ty, cs⟩ h rfl (by simp [hl]) (by simp only [Nat.zero_mul, List.drop_zero]; exact fun v hv => hc v (List.mem_of_mem_take hv))
  simp only [Nat.zero_mul, List.drop_zero, Nat.mul_one] at q
  rw [List.take_of_length_le (by omega)] at q
  exact q
theorem leL_us_gC {n c : Nat} {M : Nat → Nat → FQ} : LeL [] .s (gC .u .s n c M) (gC .s .s n c M) := by
  induction n with
  | zero => exact .nil
  | succ n ih =>
    rw [gC_succ, gC_succ]
    exact leL_app ih (.cons _ _ _ _ (.sl _ _ _ _ _ _ rfl leL_qss) .nil)
noncomputable def redV (n c : Nat) : Option RS → V
  | some st => .tup [.agg [I n, I c, .sl .s 1 n (gC .s .s n c st.M), .rsl 0 1 0 st.piv.length, pQ .s st.det], Bo true]
  | none => .tup [.agg [I 0, I 0, .emp, .emp, .lit (.pointer none)], Bo false]
noncomputable def redB : Option RS → List Ob
  | some st => [⟨.own, T_int, iC st.piv⟩]
  | none => []
theorem le_clo {H : List Ob} {g : FuncId} (n c : Nat) (M : Nat → Nat → FQ) : LeL H .b [I n, I c, .fn (.func g) [] [.ptr .s [I n, I c, .sl .s 1 n (gC .s .s n c M)]]] [I n, I c, .fn (.func g) [] [.ptr .s [I n, I c, .sl .s 1 n (gC .s .s n c M)]]] :=
  .cons _ _ _ _ (.lit _) (.cons _ _ _ _ (.lit _) (.cons _ _ _ _ (.fn _ _ _ _ _ .nil (.cons _ _ _ _ (.ptr _ _ _ _ (show FlLe .b .s .s from Or.inl rfl) (.cons _ _ _ _ (.lit _) (.cons _ _ _ _ (.lit _) (.cons _ _ _ _ (.sl _ _ _ _ _ _ (show FlLe .b .s .s from Or.inl rfl) leL_gCs) .nil)))) .nil)) .nil))
theorem red_fin {n c : Nat} {st : RS} {o1 o2 : Ob} {ty1 ty2 : TypeId} (h1 : ty1 = T_sl_p_impl_ratio) (h2 : ty2 = T_int) :
    RtG 0 [o1, o2, ⟨.own, ty1, gC .u .s n c st.M⟩, ⟨.own, ty2, iC st.piv⟩] (.tup [.agg [I n, I c, .rsl 2 1 0 n, .rsl 3 1 0 st.piv.length, pQ .s st.det], .lit (.bool true)]) (redV n c (some st)) (redB (some st)) := by
  subst h1 h2
  refine RtG.share 2 (cs' := gC .s .s n c st.M) rfl gC_flat leL_us_gC gC_cl (RtG.nothing [some 3] trivial (by decide) (by show obRn _ _ _ [⟨.own, T_int, iC st.piv⟩] _ _; simp -dsimp(disch:=first|exact om|fail)only[go_sem,↓reduceIte,Nat.reduceEqDiff,Nat.reduceAdd,Nat.reduceSub,Nat.reduceMul,Nat.reduceLT,Nat.reduceLeDiff,reduceCtorEq,a_eq,a_neq,a_cast0,a_pred,a_app1,a_zero,Int.reduceToNat]) ?_)
  refine .tup _ _ _ _ _ (.cons _ _ _ _ _ _ [] [] (.agg _ _ _ _ _ (.cons _ _ _ _ _ _ [] [] (.same _ _ _ trivial (fun _ => trivial)) (.cons _ _ _ _ _ _ [] [] (.same _ _ _ trivial (fun _ => trivial)) (.cons _ _ _ _ _ _ [] [] (rn_rslG rfl gC_length gC_cl) (.cons _ _ _ _ _ _ [] [] (.rsl _ _ _ _ _ _ _ rfl) (.cons _ _ _ _ _ _ [] [] (of_eq_true rn_pQs) (.nil _ _))))))) (.cons _ _ _ _ _ _ [] [] (.same _ _ _ trivial (fun _ => trivial)) (.nil _ _)))
theorem reduce_g (n c : Nat) (hn : n ≤ 24) (hc : c ≤ 64) (M : Nat → Nat → FQ) (hg : ∀ i j, i < n → j < c → (M i j).good = true) :
    GC PP F_impl_grid_reduce [gV .s n c M] [] (redV n c (redTo n c M c)) (redB (redTo n c M c)) := by
  have cl := fun i k hi hk => reduce1_b n c hn hc M i k hi hk
  refine txg W_impl_grid_reduce ke_impl_grid_reduce 0 [] [1] [5] rfl (by kernel_rfl) ?_
  simp -dsimp(disch:=first|exact om|fail)only[go_sem,↓reduceIte,Nat.reduceEqDiff,Nat.reduceAdd,Nat.reduceSub,Nat.reduceMul,Nat.reduceLT,Nat.reduceLeDiff,reduceCtorEq,a_eq,a_neq,a_cast0,a_pred,a_app1,a_zero,Int.reduceToNat]
  refine ⟨⟨[(1, .ptr .s [I n, I c, .sl .s 1 n (gC .s .s n c M)]), (2, .ref 0 0)], [⟨.own, T_impl_reduced, [I 0, I 0, .emp, .emp, .lit (.pointer none)]⟩]⟩, (StI.share 0 (cs' := [I n, I c, .sl .s 1 n (gC .s .s n c M)]) rfl lW (.cons _ _ _ _ (.lit _) (.cons _ _ _ _ (.lit _) (.cons _ _ _ _ (.sl _ _ _ _ _ _ (show FlLe .s .s .s from Or.inl rfl) leL_gCs) .nil))) (by simp [V.cl])).trans (StI.ren [some 1] [[]] lE (by decide) lW ⟨.refz _ _ 0 0 ⟨.frz, _, _⟩ rfl rfl (by simp [V.cl]), .ref _ _ _ _ _ rfl, trivial⟩), ?_⟩
  simp -dsimp(disch:=first|exact om|fail)only[go_sem,↓reduceIte,Nat.reduceEqDiff,Nat.reduceAdd,Nat.reduceSub,Nat.reduceMul,Nat.reduceLT,Nat.reduceLeDiff,reduceCtorEq,a_eq,a_neq,a_cast0,a_pred,a_app1,a_zero,Int.reduceToNat]
  refine callO' (newGrid_g n c (by omega) (by omega) _ [] [.ptr .s [I n, I c, .sl .s 1 n (gC .s .s n c M)]] (by simp [V.fl1]) M cl) (le_clo n c M) (by intro ob hob; simp only [List.mem_cons, List.not_mem_nil, or_false] at hob; subst hob; exact ⟨by simp, gC_flat⟩) ?_
  simp -dsimp(disch:=first|exact om|fail)only[go_sem,↓reduceIte,Nat.reduceEqDiff,Nat.reduceAdd,Nat.reduceSub,Nat.reduceMul,Nat.reduceLT,Nat.reduceLeDiff,reduceCtorEq,a_eq,a_neq,a_cast0,a_pred,a_app1,a_zero,Int.reduceToNat]
  refine callP (whole_c 1 (by omega)) lL ?_
  simp -dsimp(disch:=first|exact om|fail)only[go_sem,↓reduceIte,Nat.reduceEqDiff,Nat.reduceAdd,Nat.reduceSub,Nat.reduceMul,Nat.reduceLT,Nat.reduceLeDiff,reduceCtorEq,a_eq,a_neq,a_cast0,a_pred,a_app1,a_zero,Int.reduceToNat]
  refine loopJ (fun y : Nat × RS => y.1 ≤ c ∧ redTo n c M y.1 = some y.2) (fun y => ⟨[(1, .ptr .s [I n, I c, .sl .s 1 n (gC .s .s n c M)]), (2, .ref 0 0), (4, .ref 1 0), (5, I y.1)], [⟨.own, T_impl_reduced, [I 0, I 0, .emp, .emp, .lit (.pointer none)]⟩, ⟨.own, T_impl_reduced, [I n, I c, .rsl 2 1 0 n, .rsl 3 1 0 y.2.piv.length, pQ .s y.2.det]⟩, ⟨.own, T_sl_p_impl_ratio, gC .u .s n c y.2.M⟩, ⟨.own, T_int, iC y.2.piv⟩]⟩) (fun y => c - y.1) (0, ⟨M, [], FQ.ofInt 1⟩) ⟨by omega, rfl⟩ ?_ ?_
  · exact StI.ren [some 0, some 2, some 1, none] [[], [], [], []] lE (by decide) (by simp -dsimp(disch:=first|exact om|fail)only[go_sem,↓reduceIte,Nat.reduceEqDiff,Nat.reduceAdd,Nat.reduceSub,Nat.reduceMul,Nat.reduceLT,Nat.reduceLeDiff,reduceCtorEq,a_eq,a_neq,a_cast0,a_pred,a_app1,a_zero,Int.reduceToNat]; exact ⟨RnL.same gC_flat (fun h => by cases h), rfl⟩) lW
  rintro ⟨k, st⟩ ⟨hk, hst⟩
  simp only at hk hst ⊢
  have hinv := redTo_inv hg hst
  by_cases h : k < c
  · by_cases hp : st.piv.length < n
    · have q := column_ic n c k hn hc h st hp hinv.good
      have hs : redTo n c M (k + 1) = redStep n c st k := by
        show (match redTo n c M k with
          | none => none
          | some st => if st.piv.length < n then redStep n c st k else some st) = _
        rw [hst]; exact if_pos hp
      have hpl := hinv.pl
      cases hr : redStep n c st k with
      | none =>
        rw [show redO n c st k = failH n st.piv.length by unfold redO; rw [hr], hr, Option.isSome_none] at q
        rw [redTo_none (hs.trans hr) h]
        simp -dsimp(disch:=first|exact om|fail)only[go_sem,↓reduceIte,Nat.reduceEqDiff,Nat.reduceAdd,Nat.reduceSub,Nat.reduceMul,Nat.reduceLT,Nat.reduceLeDiff,reduceCtorEq,a_eq,a_neq,a_cast0,a_pred,a_app1,a_zero,Int.reduceToNat]
        refine callI' q ?_
        simp -dsimp(disch:=first|exact om|fail)only[go_sem,↓reduceIte,Nat.reduceEqDiff,Nat.reduceAdd,Nat.reduceSub,Nat.reduceMul,Nat.reduceLT,Nat.reduceLeDiff,reduceCtorEq,a_eq,a_neq,a_cast0,a_pred,a_app1,a_zero,Int.reduceToNat]
        show RtG 0 _ _ (.tup [.agg [I 0, I 0, .emp, .emp, .lit (.pointer none)], Bo false]) []
        exact RtG.nothing [] trivial (by decide) trivial lW
      | some st' =>
        by_cases hf : firstR st.M k st.piv.length n = n
        · have e : st' = st := by
            unfold redStep at hr
            rw [if_pos hf] at hr
            cases hr; rfl
          rw [show redO n c st k = redH n c st by unfold redO; rw [hr]; exact if_pos hf, hr, Option.isSome_some] at q
          simp -dsimp(disch:=first|exact om|fail)only[go_sem,↓reduceIte,Nat.reduceEqDiff,Nat.reduceAdd,Nat.reduceSub,Nat.reduceMul,Nat.reduceLT,Nat.reduceLeDiff,reduceCtorEq,a_eq,a_neq,a_cast0,a_pred,a_app1,a_zero,Int.reduceToNat]
          refine callI' q ?_
          simp -dsimp(disch:=first|exact om|fail)only[go_sem,↓reduceIte,Nat.reduceEqDiff,Nat.reduceAdd,Nat.reduceSub,Nat.reduceMul,Nat.reduceLT,Nat.reduceLeDiff,reduceCtorEq,a_eq,a_neq,a_cast0,a_pred,a_app1,a_zero,Int.reduceToNat]
          refine ⟨(k + 1, st), ⟨by omega, by rw [hs, hr, e]⟩, by show c - (k + 1) < c - k; omega, StI.ren [some 0, some 1, some 2, some 3] [[], [], [], []] lE (by decide) (by simp -dsimp(disch:=first|exact om|fail)only[go_sem,↓reduceIte,Nat.reduceEqDiff,Nat.reduceAdd,Nat.reduceSub,Nat.reduceMul,Nat.reduceLT,Nat.reduceLeDiff,reduceCtorEq,a_eq,a_neq,a_cast0,a_pred,a_app1,a_zero,Int.reduceToNat]; exact RnL.same gC_flat (fun h => by cases h)) lW⟩
        · have hpv : st'.piv = st.piv ++ [(k : Int)] := by
            unfold redStep at hr
            rw [if_neg hf] at hr
            simp only at hr
            split at hr
            · cases hr; rfl
            · cases hr
          have hpl' : st'.piv.length = st.piv.length + 1 := by rw [hpv]; simp
          rw [show redO n c st k = [resO, ⟨.own, T_impl_reduced, [I n, I c, .rsl 2 1 0 n, .rsl 4 1 0 (st.piv.length + 1), pQ .s st'.det]⟩, ⟨.own, T_sl_p_impl_ratio, gC .u .s n c st'.M⟩, ⟨.dead, T_int, iC st.piv⟩, ⟨.own, T_int, iC (st.piv ++ [(k : Int)])⟩] by unfold redO; rw [hr]; exact if_neg hf, hr, ← hpv, Option.isSome_some] at q
          simp -dsimp(disch:=first|exact om|fail)only[go_sem,↓reduceIte,Nat.reduceEqDiff,Nat.reduceAdd,Nat.reduceSub,Nat.reduceMul,Nat.reduceLT,Nat.reduceLeDiff,reduceCtorEq,a_eq,a_neq,a_cast0,a_pred,a_app1,a_zero,Int.reduceToNat]
          refine callI' q ?_
          simp -dsimp(disch:=first|exact om|fail)only[go_sem,↓reduceIte,Nat.reduceEqDiff,Nat.reduceAdd,Nat.reduceSub,Nat.reduceMul,Nat.reduceLT,Nat.reduceLeDiff,reduceCtorEq,a_eq,a_neq,a_cast0,a_pred,a_app1,a_zero,Int.reduceToNat]
          refine ⟨(k + 1, st'), ⟨by omega, by rw [hs, hr]⟩, by show c - (k + 1) < c - k; omega, StI.ren [some 0, some 1, some 2, some 4] [[], [], [], []] lE (by decide) (by simp -dsimp(disch:=first|exact om|fail)only[go_sem,↓reduceIte,Nat.reduceEqDiff,Nat.reduceAdd,Nat.reduceSub,Nat.reduceMul,Nat.reduceLT,Nat.reduceLeDiff,reduceCtorEq,a_eq,a_neq,a_cast0,a_pred,a_app1,a_zero,Int.reduceToNat]; exact ⟨hpl'.symm, RnL.same gC_flat (fun h => by cases h)⟩) lW⟩
    · rw [redTo_full hst hp hk]
      simp -dsimp(disch:=first|exact om|fail)only[go_sem,↓reduceIte,Nat.reduceEqDiff,Nat.reduceAdd,Nat.reduceSub,Nat.reduceMul,Nat.reduceLT,Nat.reduceLeDiff,reduceCtorEq,a_eq,a_neq,a_cast0,a_pred,a_app1,a_zero,Int.reduceToNat]
      exact red_fin rfl rfl
  · obtain rfl : k = c := by omega
    rw [hst]
    simp -dsimp(disch:=first|exact om|fail)only[go_sem,↓reduceIte,Nat.reduceEqDiff,Nat.reduceAdd,Nat.reduceSub,Nat.reduceMul,Nat.reduceLT,Nat.reduceLeDiff,reduceCtorEq,a_eq,a_neq,a_cast0,a_pred,a_app1,a_zero,Int.reduceToNat]
    exact red_fin rfl rfl
end Go.Proofs.Ytgkimfncegbeaaa
