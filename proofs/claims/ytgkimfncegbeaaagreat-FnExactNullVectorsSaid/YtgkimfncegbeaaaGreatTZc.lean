/- part of the proof -/
import Derived.Test.YtgkimfncegbeaaaGreatTZb
import Derived.Test.YtgkimfncegbeaaaGreatTXx
namespace Go.Proofs.YtgkimfncegbeaaaGreat
open Go Go.RowKit
set_option maxRecDepth 100000
set_option maxHeartbeats 4000000
set_option linter.unusedVariables false
set_option linter.unusedSimpArgs false
theorem pix_snoc {p : List Int} {k : Int} : ∀ {m t : Nat}, pix p k t (m + 1) = match pix p k t m with
    | some i => some i
    | none => if k = p.getD (t + m) 0 then some (t + m) else none
  | 0, t => by
    unfold pix pix
    rw [Nat.add_zero]
  | m + 1, t => by
    have := pix_snoc (p := p) (k := k) (m := m) (t := t + 1)
    rw [show t + 1 + m = t + (m + 1) by omega] at this
    show (if k = p.getD t 0 then some t else pix p k (t + 1) (m + 1)) = match (if k = p.getD t 0 then some t else pix p k (t + 1) m) with
      | some i => some i
      | none => if k = p.getD (t + (m + 1)) 0 then some (t + (m + 1)) else none
    by_cases h : k = p.getD t 0
    · rw [if_pos h, if_pos h]
    · rw [if_neg h, if_neg h, this]
theorem l07Has_c (f : Fl) (hf : f ≠ .u) (l : List Int) (hl : l.length ≤ 1048576) (n : Int) : PC PP F_spec_l07Has [sI f l, .lit (.int .i64 n)] (Bo (pix l n 0 l.length).isSome) [] := by
  refine tx W_spec_l07Has ke_spec_l07Has [] (by kernel_rfl) ?_
  simp -dsimp(disch:=first|exact om|fail)only[go_sem,↓reduceIte,Nat.reduceEqDiff,Nat.reduceAdd,Nat.reduceSub,Nat.reduceMul,Nat.reduceLT,Nat.reduceLeDiff,reduceCtorEq,a_eq,a_neq,a_cast0,a_pred,a_app1,a_zero,Int.reduceToNat]
  refine loopI (fun k : Nat => k ≤ l.length ∧ pix l n 0 k = none) (fun k => ⟨[(1, .lit (.int .i64 n)), (7, sI f l), (8, I l.length), (9, I k)], []⟩) (fun k => l.length - k) 0 ⟨by omega, rfl⟩ ?_ ?_
  · simp -dsimp(disch:=first|exact om|fail)only[go_sem,↓reduceIte,Nat.reduceEqDiff,Nat.reduceAdd,Nat.reduceSub,Nat.reduceMul,Nat.reduceLT,Nat.reduceLeDiff,reduceCtorEq,a_eq,a_neq,a_cast0,a_pred,a_app1,a_zero,Int.reduceToNat]
  rintro k ⟨hk, hp⟩
  by_cases h : k < l.length
  · by_cases h2 : l.getD k 0 = n
    · simp -dsimp(disch:=first|exact om|fail)only[go_sem,↓reduceIte,Nat.reduceEqDiff,Nat.reduceAdd,Nat.reduceSub,Nat.reduceMul,Nat.reduceLT,Nat.reduceLeDiff,reduceCtorEq,a_eq,a_neq,a_cast0,a_pred,a_app1,a_zero,Int.reduceToNat, h2]
      have : pix l n 0 l.length ≠ none := by
        rw [Ne, pix_none]
        intro q
        exact q k (by omega) (by omega) h2.symm
      rcases e : pix l n 0 l.length with _ | j
      · exact absurd e this
      · rfl
    · simp -dsimp(disch:=first|exact om|fail)only[go_sem,↓reduceIte,Nat.reduceEqDiff,Nat.reduceAdd,Nat.reduceSub,Nat.reduceMul,Nat.reduceLT,Nat.reduceLeDiff,reduceCtorEq,a_eq,a_neq,a_cast0,a_pred,a_app1,a_zero,Int.reduceToNat, h2]
      refine ⟨k + 1, ⟨by omega, ?_⟩, by omega, ?_⟩
      · rw [pix_snoc, hp]
        simp only [Nat.zero_add]
        rw [if_neg (fun e => h2 e.symm)]
      · simp -dsimp(disch:=first|exact om|fail)only[go_sem,↓reduceIte,Nat.reduceEqDiff,Nat.reduceAdd,Nat.reduceSub,Nat.reduceMul,Nat.reduceLT,Nat.reduceLeDiff,reduceCtorEq,a_eq,a_neq,a_cast0,a_pred,a_app1,a_zero,Int.reduceToNat]
  · obtain rfl : k = l.length := by omega
    simp -dsimp(disch:=first|exact om|fail)only[go_sem,↓reduceIte,Nat.reduceEqDiff,Nat.reduceAdd,Nat.reduceSub,Nat.reduceMul,Nat.reduceLT,Nat.reduceLeDiff,reduceCtorEq,a_eq,a_neq,a_cast0,a_pred,a_app1,a_zero,Int.reduceToNat, hp]
    rfl
def nulG (p : List Int) (A : Nat → Nat → FQ) (k i : Nat) : Nat → FQ := fun c => match pix p c 0 i with
  | some t => (A t k).neg
  | none => if c = k then FQ.ofInt 1 else FQ.ofInt 0
theorem rowQ_set {c j : Nat} {g h : Nat → FQ} {x : FQ} (e : ∀ t, t < c → h t = if t = j then x else g t) : (rowQ c g).set j x = rowQ c h := by
  refine List.ext_getElem? fun t => ?_
  rw [List.getElem?_set]
  unfold rowQ
  simp only [List.length_map, List.length_range, List.getElem?_map]
  by_cases ht : t < c
  · rw [List.getElem?_range ht, Option.map_some, Option.map_some, e t ht]
    by_cases q : j = t
    · subst q; rw [if_pos rfl, if_pos ht, if_pos rfl]
    · rw [if_neg q, if_neg (fun e => q e.symm)]
  · rw [List.getElem?_eq_none (l := List.range c) (by simp; omega)]
    by_cases q : j = t
    · rw [if_pos q, if_neg (by omega)]; rfl
    · rw [if_neg q]; rfl
theorem nulG_zero {p : List Int} {A : Nat → Nat → FQ} {c k : Nat} (hk : k < c) : (List.replicate c (qd (FQ.ofInt 0))).set k (qd (FQ.ofInt 1)) = (rowQ c (nulG p A k 0)).map qd := by
  have h0 : List.replicate c (qd (FQ.ofInt 0)) = (rowQ c fun _ => FQ.ofInt 0).map qd := by
    unfold rowQ
    rw [List.map_map]
    refine List.ext_getElem? fun t => ?_
    rw [List.getElem?_replicate, List.getElem?_map]
    by_cases ht : t < c
    · rw [if_pos ht, List.getElem?_range ht]; rfl
    · rw [if_neg ht, List.getElem?_eq_none (l := List.range c) (by simp; omega)]; rfl
  rw [h0, ← List.map_set, rowQ_set fun t _ => ?_]
  rfl
theorem nulG_succ {p : List Int} {A : Nat → Nat → FQ} {c k i : Nat} (hp : PvOk p c) (hi : i < p.length) : (rowQ c (nulG p A k i)).set (p.getD i 0).toNat (A i k).neg = rowQ c (nulG p A k (i + 1)) := by
  refine rowQ_set fun t _ => ?_
  have hb := hp.1 i hi
  unfold nulG
  rw [pix_snoc, Nat.zero_add]
  by_cases h : (t : Int) = p.getD i 0
  · have hn : pix p t 0 i = none := pix_none.2 fun j _ hj => by have := hp.2 j i (by omega) hi; omega
    simp only [hn, if_pos h]
    rw [if_pos (by omega)]
  · rw [if_neg (show ¬ t = (p.getD i 0).toNat by omega)]
    cases pix p t 0 i with
    | some j => rfl
    | none => simp only; rw [if_neg h]
abbrev nvS (x : List (List RD) × Bool) : V := .tup [.sl .s 1 x.1.length (vsC .s .s x.1), Bo x.2]
theorem rn_rsUS {H : List Ob} {js : List (Option Nat)} {bk : Bool} {k c : Nat} {ty : TypeId} {l : List RD} (h : H[k]? = some ⟨.own, ty, rsC .s l⟩) (hl : l.length = c) : Rn H js bk (.rsl k 3 0 c) (.sl .u 3 l.length (rsC .s l)) [k] := by
  subst hl
  have e : (rsC .s l).take (l.length * 3) = rsC .s l := List.take_of_length_le (by rw [rsC_length]; exact Nat.le_refl _)
  refine Rn.cl js bk k 3 l.length ⟨.own, ty, rsC .s l⟩ (rsC .s l) [] h rfl (by show l.length * 3 ≤ (rsC .s l).length; rw [rsC_length]; exact Nat.le_refl _) ?_
  rw [e]
  exact rnL_rsC (fun _ => by simp)
theorem leL_vs {H : List Ob} {L : List (List RD)} : LeL H .s (vsC .u .s L) (vsC .s .s L) := by
  induction L with
  | nil => exact .nil
  | cons l L ih => exact .cons _ _ _ _ (.sl _ _ _ _ _ _ rfl (leL_rsC fun m => .sl _ _ _ _ _ _ (show FlLe .s .s .s from Or.inl rfl) LeL.lits)) ih
theorem le_vs {H : List Ob} {id : Nat} {ty : TypeId} {L : List (List FQ)} (h : H[id]? = some ⟨.own, ty, vsC .u .s (L.map fun l => l.map qd)⟩) : Le H .s (.rsl id 1 0 L.length) (.sl .s 1 L.length (vsC .s .s (L.map fun l => l.map qd))) := by
  have hl : (vsC .u .s (L.map fun l => l.map qd)).length = L.length := by simp [vsC]
  refine Le.rsl (H := H) (f := .s) id 1 0 L.length _ _ h (.inl rfl) (by simp [vsC]) ?_
  simp only [Nat.zero_mul, List.drop_zero, Nat.mul_one]
  rw [List.take_of_length_le (by rw [hl]; exact Nat.le_refl _)]
  exact leL_vs
theorem spec_NullVectors_c (m : MD) (f : Fl) (hf : f ≠ .u) (hs : smallL m.cells) : PC PP F_spec_NullVectors [mtV f m] (nvS (nvR m)) [] := by
  refine txe W_spec_NullVectors ke_spec_NullVectors [] [] [16] (by kernel_rfl) ?_
  simp -dsimp(disch:=first|exact om|fail)only[go_sem,↓reduceIte,Nat.reduceEqDiff,Nat.reduceAdd,Nat.reduceSub,Nat.reduceMul,Nat.reduceLT,Nat.reduceLeDiff,reduceCtorEq,a_eq,a_neq,a_cast0,a_pred,a_app1,a_zero,Int.reduceToNat]
  have q := spec_Reduce_c m f hf hs
  cases ho : m.ok
  · rw [show redR m = noRd by unfold redR; rw [ho]; rfl] at q
    rw [show nvR m = ([], false) by unfold nvR; rw [ho]; rfl]
    unfold noRd at q
    refine callP q lL ?_
    simp -dsimp(disch:=first|exact om|fail)only[go_sem,↓reduceIte,Nat.reduceEqDiff,Nat.reduceAdd,Nat.reduceSub,Nat.reduceMul,Nat.reduceLT,Nat.reduceLeDiff,reduceCtorEq,a_eq,a_neq,a_cast0,a_pred,a_app1,a_zero,Int.reduceToNat]
    exact .esl _ _
  · obtain ⟨r, c, hg⟩ := MD.ok_good ho
    rw [redR_ok ho hg] at q
    rw [nvR_ok ho hg]
    have h24 := hg.r24
    have hc24 := hg.c24
    have hec := hg.ec
    have hgd : ∀ i j, i < r → j < c → (m.at c i j).good = true := fun i j hi hj => (MD.at_ok hg hi hj).1
    unfold redQ at q
    rcases to_same hgd (Nat.le_refl c) with ⟨a, e, hS⟩ | ⟨e, h1, h2⟩
    · have hcl : gridL r c (refTo r c (m.at c) c).M = gridL r c a.M := gridL_congr fun i j hi hj => (hS.m i j hi hj).symm
      have hal : allG (gridL r c a.M) = true := gridL_all fun i j hi hj => hS.good i j hi hj
      rw [hcl, if_pos hal, ← hS.piv] at q
      rw [show nvQ r c (m.at c) = ((nulL a.piv a.M c c).map fun l => l.map qd, true) by unfold nvQ; rw [e]]
      have hpv := redTo_pv e
      have hpl := hS.pl
      have hat := fun i j hi hj => l06At_s r c (by have := Nat.mul_le_mul h24 hc24; omega) a.M i j hi hj
      have hLl : ((gridL r c a.M).map qd).length = r * c := by rw [List.length_map, gridL_length]
      generalize a.piv = p at *
      generalize a.M = A at *
      refine callP q lL ?_
      simp -dsimp(disch:=first|exact om|fail)only[go_sem,↓reduceIte,Nat.reduceEqDiff,Nat.reduceAdd,Nat.reduceSub,Nat.reduceMul,Nat.reduceLT,Nat.reduceLeDiff,reduceCtorEq,a_eq,a_neq,a_cast0,a_pred,a_app1,a_zero,Int.reduceToNat]
      generalize hcl2 : (gridL r c A).map qd = cl at *
      refine loopJ (fun k : Nat => k ≤ c) (fun k => ⟨[(1, .ref 0 0), (4, .ref 1 0), (5, sI .s p), (7, .rsl 2 1 0 (nulL p A c k).length), (8, I k)], [⟨.own, T_impl_Matrix, [I m.rows, I m.cols, sR f m.cells]⟩, ⟨.own, T_impl_Matrix, [I r, I c, sR .s cl]⟩, ⟨.own, T_sl_impl_Rat, vsC .u .s ((nulL p A c k).map fun l => l.map qd)⟩]⟩) (fun k => c - k) 0 (by omega) ?_ ?_
      · refine StI.ren [some 0, some 1, none] [[], [], []] lE (by decide) (by simp -dsimp(disch:=first|exact om|fail)only[go_sem,↓reduceIte,Nat.reduceEqDiff,Nat.reduceAdd,Nat.reduceSub,Nat.reduceMul,Nat.reduceLT,Nat.reduceLeDiff,reduceCtorEq,a_eq,a_neq,a_cast0,a_pred,a_app1,a_zero,Int.reduceToNat]; rfl) (by simp -dsimp(disch:=first|exact om|fail)only[go_sem,↓reduceIte,Nat.reduceEqDiff,Nat.reduceAdd,Nat.reduceSub,Nat.reduceMul,Nat.reduceLT,Nat.reduceLeDiff,reduceCtorEq,a_eq,a_neq,a_cast0,a_pred,a_app1,a_zero,Int.reduceToNat]; rfl)
      intro k hk
      by_cases h : k < c
      · have hh := l07Has_c .s fls p (by omega) (k : Int)
        rcases hx : pix p k 0 p.length with _ | j
        · rw [hx] at hh
          simp -dsimp(disch:=first|exact om|fail)only[go_sem,↓reduceIte,Nat.reduceEqDiff,Nat.reduceAdd,Nat.reduceSub,Nat.reduceMul,Nat.reduceLT,Nat.reduceLeDiff,reduceCtorEq,a_eq,a_neq,a_cast0,a_pred,a_app1,a_zero,Int.reduceToNat, hec]
          refine callP hh lL ?_
          simp -dsimp(disch:=first|exact om|fail)only[go_sem,↓reduceIte,Nat.reduceEqDiff,Nat.reduceAdd,Nat.reduceSub,Nat.reduceMul,Nat.reduceLT,Nat.reduceLeDiff,reduceCtorEq,a_eq,a_neq,a_cast0,a_pred,a_app1,a_zero,Int.reduceToNat, Option.isSome_none]
          refine callO' (l05Zeros_g c (by omega)) lL lF ?_
          simp -dsimp(disch:=first|exact om|fail)only[go_sem,↓reduceIte,Nat.reduceEqDiff,Nat.reduceAdd,Nat.reduceSub,Nat.reduceMul,Nat.reduceLT,Nat.reduceLeDiff,reduceCtorEq,a_eq,a_neq,a_cast0,a_pred,a_app1,a_zero,Int.reduceToNat]
          refine callP (spec_RatFromInt_c 1 (by omega)) lL ?_
          have hz := nulG_zero (p := p) (A := A) h
          have hzl : k < (List.replicate c (qd (FQ.ofInt 0))).length := by rw [List.length_replicate]; exact h
          generalize List.replicate c (qd (FQ.ofInt 0)) = Z at *
          simp -dsimp(disch:=first|exact om|fail)only[go_sem,↓reduceIte,Nat.reduceEqDiff,Nat.reduceAdd,Nat.reduceSub,Nat.reduceMul,Nat.reduceLT,Nat.reduceLeDiff,reduceCtorEq,a_eq,a_neq,a_cast0,a_pred,a_app1,a_zero,Int.reduceToNat]
          rw [rsC_set hzl, hz]
          refine loopJ (fun i : Nat => i ≤ p.length) (fun i => ⟨[(1, .ref 0 0), (4, .ref 1 0), (5, sI .s p), (7, .rsl 2 1 0 (nulL p A c k).length), (8, I k), (9, .rsl 3 3 0 c), (37, sI .s p), (38, I p.length), (39, I i)], [⟨.own, T_impl_Matrix, [I m.rows, I m.cols, sR f m.cells]⟩, ⟨.own, T_impl_Matrix, [I r, I c, sR .s cl]⟩, ⟨.own, T_sl_impl_Rat, vsC .u .s ((nulL p A c k).map fun l => l.map qd)⟩, ⟨.own, T_impl_Rat, rsC .s ((rowQ c (nulG p A k i)).map qd)⟩]⟩) (fun i => p.length - i) 0 (by omega) ?_ ?_
          · refine StI.ren [some 0, some 1, some 2, some 3] [[], [], [], []] lE (by decide) (by simp -dsimp(disch:=first|exact om|fail)only[go_sem,↓reduceIte,Nat.reduceEqDiff,Nat.reduceAdd,Nat.reduceSub,Nat.reduceMul,Nat.reduceLT,Nat.reduceLeDiff,reduceCtorEq,a_eq,a_neq,a_cast0,a_pred,a_app1,a_zero,Int.reduceToNat, hec]; exact RnL.same vsC_flat (fun h => by cases h)) lW
          intro i hi
          by_cases h2 : i < p.length
          · have hb := hpv.1 i h2
            have hs2 := nulG_succ (A := A) (k := k) hpv h2
            have hat2 := hat i k (by omega) h
            have hln : ((rowQ c (nulG p A k i)).map qd).length = c := by rw [List.length_map, rowQ_length]
            obtain ⟨j, hj⟩ : ∃ j : Nat, p.getD i 0 = (j : Int) := ⟨(p.getD i 0).toNat, by omega⟩
            have hjc : j < c := by omega
            rw [hj, Int.toNat_natCast] at hs2
            have hst := rsC_set (f := .s) (L := (rowQ c (nulG p A k i)).map qd) (p := j) (r := qd (A i k).neg) (by rw [hln]; exact hjc)
            rw [← List.map_set, hs2] at hst
            simp -dsimp(disch:=first|exact om|fail)only[go_sem,↓reduceIte,Nat.reduceEqDiff,Nat.reduceAdd,Nat.reduceSub,Nat.reduceMul,Nat.reduceLT,Nat.reduceLeDiff,reduceCtorEq,a_eq,a_neq,a_cast0,a_pred,a_app1,a_zero,Int.reduceToNat, hj]
            refine callP hat2 ?_ ?_
            · rw [← hLl]
              exact .cons _ _ _ _ (.agg _ _ (.cons _ _ _ _ (.lit _) (.cons _ _ _ _ (.lit _) (.cons _ _ _ _ (.sl _ _ _ _ _ _ (show FlLe .b .s .b from Or.inr rfl) (leL_rsC fun m => .sl _ _ _ _ _ _ (show FlLe .b .s .s from Or.inl rfl) LeL.lits)) .nil)))) (.cons _ _ _ _ (.lit _) (.cons _ _ _ _ (.lit _) .nil))
            simp -dsimp(disch:=first|exact om|fail)only[go_sem,↓reduceIte,Nat.reduceEqDiff,Nat.reduceAdd,Nat.reduceSub,Nat.reduceMul,Nat.reduceLT,Nat.reduceLeDiff,reduceCtorEq,a_eq,a_neq,a_cast0,a_pred,a_app1,a_zero,Int.reduceToNat]
            refine callP (l04Neg_c .s fls (A i k)) lL ?_
            simp -dsimp(disch:=first|exact om|fail)only[go_sem,↓reduceIte,Nat.reduceEqDiff,Nat.reduceAdd,Nat.reduceSub,Nat.reduceMul,Nat.reduceLT,Nat.reduceLeDiff,reduceCtorEq,a_eq,a_neq,a_cast0,a_pred,a_app1,a_zero,Int.reduceToNat, hj]
            rw [hst]
            exact ⟨i + 1, by omega, by omega, StI.ren [some 0, some 1, some 2, some 3] [[], [], [], []] lE (by decide) (by simp -dsimp(disch:=first|exact om|fail)only[go_sem,↓reduceIte,Nat.reduceEqDiff,Nat.reduceAdd,Nat.reduceSub,Nat.reduceMul,Nat.reduceLT,Nat.reduceLeDiff,reduceCtorEq,a_eq,a_neq,a_cast0,a_pred,a_app1,a_zero,Int.reduceToNat]; exact RnL.same vsC_flat (fun h => by cases h)) lW⟩
          · obtain rfl : i = p.length := by omega
            have hlk : (nulL p A c k).length ≤ k := nulL_len
            have hL1 : (nulL p A c (k + 1)).map (fun l => l.map qd) = (nulL p A c k).map (fun l => l.map qd) ++ [(rowQ c (nulG p A k p.length)).map qd] := by
              unfold nulL; rw [nulK_yes hx, List.map_append, List.map_append]; rfl
            simp -dsimp(disch:=first|exact om|fail)only[go_sem,↓reduceIte,Nat.reduceEqDiff,Nat.reduceAdd,Nat.reduceSub,Nat.reduceMul,Nat.reduceLT,Nat.reduceLeDiff,reduceCtorEq,a_eq,a_neq,a_cast0,a_pred,a_app1,a_zero,Int.reduceToNat]
            refine ⟨k + 1, by omega, by omega, StI.ren [some 0, some 1, some 5] [[], [], [3]] lE (by decide) ?_ ?_⟩
            · simp -dsimp(disch:=first|exact om|fail)only[go_sem,↓reduceIte,Nat.reduceEqDiff,Nat.reduceAdd,Nat.reduceSub,Nat.reduceMul,Nat.reduceLT,Nat.reduceLeDiff,reduceCtorEq,a_eq,a_neq,a_cast0,a_pred,a_app1,a_zero,Int.reduceToNat]
              rw [hL1, vsC_app]
              exact RnL.app (k1 := []) (RnL.same vsC_flat (fun h => by cases h)) (.cons _ _ _ _ _ _ [3] [] (rn_rsUS rfl (by rw [List.length_map, rowQ_length])) (.nil _ _))
            · simp -dsimp(disch:=first|exact om|fail)only[go_sem,↓reduceIte,Nat.reduceEqDiff,Nat.reduceAdd,Nat.reduceSub,Nat.reduceMul,Nat.reduceLT,Nat.reduceLeDiff,reduceCtorEq,a_eq,a_neq,a_cast0,a_pred,a_app1,a_zero,Int.reduceToNat]
              have := congrArg List.length hL1
              simpa using this.symm
        · rw [hx] at hh
          simp -dsimp(disch:=first|exact om|fail)only[go_sem,↓reduceIte,Nat.reduceEqDiff,Nat.reduceAdd,Nat.reduceSub,Nat.reduceMul,Nat.reduceLT,Nat.reduceLeDiff,reduceCtorEq,a_eq,a_neq,a_cast0,a_pred,a_app1,a_zero,Int.reduceToNat, hec]
          refine callP hh lL ?_
          simp -dsimp(disch:=first|exact om|fail)only[go_sem,↓reduceIte,Nat.reduceEqDiff,Nat.reduceAdd,Nat.reduceSub,Nat.reduceMul,Nat.reduceLT,Nat.reduceLeDiff,reduceCtorEq,a_eq,a_neq,a_cast0,a_pred,a_app1,a_zero,Int.reduceToNat, Option.isSome_some]
          rw [show nulL p A c k = nulL p A c (k + 1) by unfold nulL; rw [nulK_no hx]]
          exact ⟨k + 1, by omega, by omega, StI.ren [some 0, some 1, some 2] [[], [], []] lE (by decide) (by simp -dsimp(disch:=first|exact om|fail)only[go_sem,↓reduceIte,Nat.reduceEqDiff,Nat.reduceAdd,Nat.reduceSub,Nat.reduceMul,Nat.reduceLT,Nat.reduceLeDiff,reduceCtorEq,a_eq,a_neq,a_cast0,a_pred,a_app1,a_zero,Int.reduceToNat]; exact RnL.same vsC_flat (fun h => by cases h)) lW⟩
      · obtain rfl : k = c := by omega
        simp -dsimp(disch:=first|exact om|fail)only[go_sem,↓reduceIte,Nat.reduceEqDiff,Nat.reduceAdd,Nat.reduceSub,Nat.reduceMul,Nat.reduceLT,Nat.reduceLeDiff,reduceCtorEq,a_eq,a_neq,a_cast0,a_pred,a_app1,a_zero,Int.reduceToNat, hec]
        exact le_vs rfl
    · rw [h2, if_neg (by decide)] at q
      rw [show nvQ r c (m.at c) = ([], false) by unfold nvQ; rw [e]]
      unfold noRd at q
      refine callP q lL ?_
      simp -dsimp(disch:=first|exact om|fail)only[go_sem,↓reduceIte,Nat.reduceEqDiff,Nat.reduceAdd,Nat.reduceSub,Nat.reduceMul,Nat.reduceLT,Nat.reduceLeDiff,reduceCtorEq,a_eq,a_neq,a_cast0,a_pred,a_app1,a_zero,Int.reduceToNat]
      exact .esl _ _
end Go.Proofs.YtgkimfncegbeaaaGreat
