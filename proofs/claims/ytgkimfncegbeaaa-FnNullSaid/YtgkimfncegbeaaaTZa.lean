/- part of the proof -/
import Derived.Test.YtgkimfncegbeaaaTXs
namespace Go.Proofs.Ytgkimfncegbeaaa
open Go Go.RowKit
set_option maxRecDepth 100000
set_option maxHeartbeats 4000000
set_option linter.unusedVariables false
set_option linter.unusedSimpArgs false
def pix (p : List Int) (k : Int) : Nat → Nat → Option Nat
  | _, 0 => none
  | t, m + 1 => if k = p.getD t 0 then some t else pix p k (t + 1) m
def mpC (p : List Int) : Nat → Nat → List V
  | _, 0 => []
  | t, m + 1 => I (p.getD t 0) :: I t :: mpC p (t + 1) m
theorem mpC_get {p : List Int} {k : Int} : ∀ {m t : Nat}, mpGet .i64 k (mpC p t m) = some ((pix p k t m).map fun i : Nat => I (i : Int))
  | 0, t => rfl
  | m + 1, t => by
    unfold mpC pix mpGet
    rw [if_pos rfl]
    by_cases h : k = p.getD t 0
    · rw [if_pos h, if_pos h]; rfl
    · rw [if_neg h, if_neg h]; exact mpC_get
theorem mpC_succ {p : List Int} : ∀ {m t : Nat}, mpC p t m ++ [I (p.getD (t + m) 0), I (t + m : Nat)] = mpC p t (m + 1)
  | 0, t => rfl
  | m + 1, t => by
    show I (p.getD t 0) :: I t :: (mpC p (t + 1) m ++ [I (p.getD (t + (m + 1)) 0), I (t + (m + 1) : Nat)]) = I (p.getD t 0) :: I t :: mpC p (t + 1) (m + 1)
    rw [← mpC_succ, show t + 1 + m = t + (m + 1) by omega]
theorem mpC_flat {p : List Int} : ∀ {m t : Nat}, ∀ v ∈ mpC p t m, v.flat
  | 0, _, v, h => by cases h
  | m + 1, t, v, h => by
    unfold mpC at h
    rcases List.mem_cons.1 h with rfl | h
    · trivial
    · rcases List.mem_cons.1 h with rfl | h
      · trivial
      · exact mpC_flat v h
theorem pix_none {p : List Int} {k : Int} : ∀ {m t : Nat}, pix p k t m = none ↔ ∀ i, t ≤ i → i < t + m → k ≠ p.getD i 0
  | 0, t => by
    constructor
    · intro _ i h1 h2; omega
    · intro _; rfl
  | m + 1, t => by
    unfold pix
    by_cases h : k = p.getD t 0
    · rw [if_pos h]
      constructor
      · intro q; cases q
      · intro q; exact absurd h (q t (by omega) (by omega))
    · rw [if_neg h, pix_none]
      constructor
      · intro q i h1 h2
        by_cases e : i = t
        · subst e; exact h
        · exact q i (by omega) (by omega)
      · intro q i h1 h2; exact q i (by omega) (by omega)
theorem pix_some {p : List Int} {k : Int} {i : Nat} : ∀ {m t : Nat}, pix p k t m = some i → t ≤ i ∧ i < t + m ∧ k = p.getD i 0
  | 0, t, h => by cases h
  | m + 1, t, h => by
    unfold pix at h
    by_cases q : k = p.getD t 0
    · rw [if_pos q] at h; obtain rfl := Option.some.inj h; exact ⟨by omega, by omega, q⟩
    · rw [if_neg q] at h
      obtain ⟨h1, h2, h3⟩ := pix_some h
      exact ⟨by omega, by omega, h3⟩
def PvOk (p : List Int) (c : Nat) : Prop := (∀ i, i < p.length → 0 ≤ p.getD i 0 ∧ p.getD i 0 < (c : Int)) ∧ ∀ i j, i < j → j < p.length → p.getD i 0 < p.getD j 0
theorem redTo_pv {n c : Nat} {M : Nat → Nat → FQ} : ∀ {k : Nat} {st : RS}, redTo n c M k = some st → PvOk st.piv k
  | 0, st, h => by cases h; exact ⟨fun i hi => by simp at hi, fun i j _ hj => by simp at hj⟩
  | k + 1, st, h => by
    unfold redTo at h
    cases e : redTo n c M k with
    | none => rw [e] at h; cases h
    | some s =>
      rw [e] at h
      obtain ⟨h1, h2⟩ := redTo_pv e
      have keep : PvOk s.piv (k + 1) := ⟨fun i hi => by have := h1 i hi; omega, h2⟩
      simp only at h
      split at h
      · unfold redStep at h
        split at h
        · cases h; exact keep
        · simp only at h
          split at h
          · cases h
            show PvOk (s.piv ++ [(k : Int)]) (k + 1)
            have g1 : ∀ i, i < s.piv.length → (s.piv ++ [(k : Int)]).getD i 0 = s.piv.getD i 0 := fun i hi => by
              rw [List.getD_eq_getElem?_getD, List.getD_eq_getElem?_getD, List.getElem?_append_left hi]
            have g2 : (s.piv ++ [(k : Int)]).getD s.piv.length 0 = (k : Int) := by
              rw [List.getD_eq_getElem?_getD, List.getElem?_append_right (Nat.le_refl _), Nat.sub_self]; rfl
            refine ⟨fun i hi => ?_, fun i j hij hj => ?_⟩
            · simp only [List.length_append, List.length_cons, List.length_nil] at hi
              by_cases q : i = s.piv.length
              · subst q; rw [g2]; omega
              · rw [g1 i (by omega)]; have := h1 i (by omega); omega
            · simp only [List.length_append, List.length_cons, List.length_nil] at hj
              by_cases q : j = s.piv.length
              · subst q; rw [g2, g1 i hij]; have := h1 i hij; omega
              · rw [g1 i (by omega), g1 j (by omega)]; exact h2 i j hij (by omega)
          · cases h
      · cases h; exact keep
def nulF (p : List Int) (A : Nat → Nat → FQ) (k : Nat) : Nat → FQ := fun c => match pix p c 0 p.length with
  | some i => (A i k).neg
  | none => if c = k then FQ.ofInt 1 else FQ.ofInt 0
def nulK (p : List Int) (k : Nat) : List Nat := (List.range k).filter fun j => (pix p j 0 p.length).isNone
theorem nulK_yes {p : List Int} {k : Nat} (h : pix p k 0 p.length = none) : nulK p (k + 1) = nulK p k ++ [k] := by
  unfold nulK
  rw [List.range_succ, List.filter_append]
  simp [h]
theorem nulK_no {p : List Int} {k i : Nat} (h : pix p k 0 p.length = some i) : nulK p (k + 1) = nulK p k := by
  unfold nulK
  rw [List.range_succ, List.filter_append]
  simp [h]
def nulL (p : List Int) (A : Nat → Nat → FQ) (c k : Nat) : List (List FQ) := (nulK p k).map fun j => rowQ c (nulF p A j)
def rwC (f g : Fl) (c : Nat) (L : List (List FQ)) : List V := L.map fun l => V.sl f 1 c (qs g l)
theorem rwC_app {f g : Fl} {c : Nat} {L : List (List FQ)} {l : List FQ} : rwC f g c (L ++ [l]) = rwC f g c L ++ [V.sl f 1 c (qs g l)] := by simp [rwC]
theorem rwC_length {f g : Fl} {c : Nat} {L : List (List FQ)} : (rwC f g c L).length = L.length := by simp [rwC]
theorem rwC_mem {f g : Fl} {c : Nat} {L : List (List FQ)} {v : V} (h : v ∈ rwC f g c L) : ∃ l, v = V.sl f 1 c (qs g l) := by
  obtain ⟨l, _, rfl⟩ := List.mem_map.1 h
  exact ⟨l, rfl⟩
theorem rwC_flat {f g : Fl} {c : Nat} {L : List (List FQ)} : ∀ v ∈ rwC f g c L, v.flat := fun v hv => by
  obtain ⟨l, rfl⟩ := rwC_mem hv; trivial
theorem leL_rwCb {H : List Ob} {c : Nat} {L : List (List FQ)} : LeL H .b (rwC .b .b c L) (rwC .b .b c L) := by
  induction L with
  | nil => exact .nil
  | cons l L ih => exact .cons _ _ _ _ (.sl _ _ _ _ _ _ ⟨rfl, rfl⟩ (leL_qsb flb)) ih
theorem nulL_len {p : List Int} {A : Nat → Nat → FQ} {c k : Nat} : (nulL p A c k).length ≤ k := by
  unfold nulL nulK
  rw [List.length_map]
  exact Nat.le_trans (List.length_filter_le _ _) (by simp)
theorem rn_rowb {H : List Ob} {js : List (Option Nat)} {id c : Nat} {ty : TypeId} {l : List FQ} (h : H[id]? = some ⟨.frz, ty, qs .b l⟩) (hl : l.length = c) : Rn H js true (.rsl id 1 0 c) (.sl .b 1 c (qs .b l)) [] := by
  have q := Rn.rslb (H := H) js id 1 0 c ⟨.frz, ty, qs .b l⟩ h rfl (by simp [qs_length, hl]) (by simp only [Nat.zero_mul, List.drop_zero]; exact fun c hc => qs_all (fun _ => of_eq_true flat_pQ) c (List.mem_of_mem_take hc))
  simp only [Nat.zero_mul, List.drop_zero, Nat.mul_one] at q
  rw [List.take_of_length_le (by rw [qs_length, hl]; exact Nat.le_refl _)] at q
  exact q
theorem rn_rwb {H : List Ob} {js : List (Option Nat)} {id c : Nat} {ty : TypeId} {L : List (List FQ)} (h : H[id]? = some ⟨.frz, ty, rwC .b .b c L⟩) : Rn H js true (.rsl id 1 0 L.length) (.sl .b 1 L.length (rwC .b .b c L)) [] := by
  have q := Rn.rslb (H := H) js id 1 0 L.length ⟨.frz, ty, rwC .b .b c L⟩ h rfl (by simp [rwC_length]) (by simp only [Nat.zero_mul, List.drop_zero]; exact fun c hc => rwC_flat c (List.mem_of_mem_take hc))
  simp only [Nat.zero_mul, List.drop_zero, Nat.mul_one] at q
  rw [List.take_of_length_le (by rw [rwC_length]; exact Nat.le_refl _)] at q
  exact q
theorem neg_b (x : FQ) : PB PP F_impl_neg [pQ .b x] (pQ .b x.neg) [] := by
  have q := (neg_s x).lent ⟨pQ_only, trivial⟩ pQ_only (by intro ob hob; cases hob)
  rw [show V.tbL [pQ .s x] = [pQ .b x] by show [(pQ .s x).tb] = _; rw [pQ_tb], pQ_tb] at q
  exact q
theorem whole_b (n : Int) (hn : -9223372036854775807 ≤ n ∧ n ≤ 9223372036854775807) : PB PP F_impl_whole [I n] (pQ .b (FQ.ofInt n)) [] := by
  have q := (whole_c n hn).lent ⟨trivial, trivial⟩ pQ_only (by intro ob hob; cases hob)
  rw [pQ_tb] at q
  exact q
noncomputable def nulV (c : Nat) : Option RS → V
  | some a => .tup [.sl .b 1 (nulL a.piv a.M c c).length (rwC .b .b c (nulL a.piv a.M c c)), Bo true]
  | none => .tup [.emp, Bo false]
theorem nulls_b (n c : Nat) (hn : n ≤ 24) (hc : c ≤ 24) (M : Nat → Nat → FQ) (hg : ∀ i j, i < n → j < c → (M i j).good = true) :
    PB PP F_impl_grid_nulls [gV .b n c M] (nulV c (redTo n c M c)) [] := by
  have q := reduce_b n c hn (by omega) M hg
  refine txb W_impl_grid_nulls ke_impl_grid_nulls [] [4] [4, 8, 14, 20, 27] (by kernel_rfl) ?_
  simp -dsimp(disch:=first|exact om|fail)only[go_sem,↓reduceIte,Nat.reduceEqDiff,Nat.reduceAdd,Nat.reduceSub,Nat.reduceMul,Nat.reduceLT,Nat.reduceLeDiff,reduceCtorEq,a_eq,a_neq,a_cast0,a_pred,a_app1,a_zero,Int.reduceToNat]
  rcases e : redTo n c M c with _ | a
  · rw [e] at q
    replace q : PB PP F_impl_grid_reduce [gV .b n c M] (.tup [.agg [I 0, I 0, .emp, .emp, .lit (.pointer none)], Bo false]) [] := q
    unfold nulV
    refine callB' q lB lF ?_
    simp -dsimp(disch:=first|exact om|fail)only[go_sem,↓reduceIte,Nat.reduceEqDiff,Nat.reduceAdd,Nat.reduceSub,Nat.reduceMul,Nat.reduceLT,Nat.reduceLeDiff,reduceCtorEq,a_eq,a_neq,a_cast0,a_pred,a_app1,a_zero,Int.reduceToNat]
    exact RtB.nothing [] (by decide) trivial lW
  · rw [e] at q
    have hinv := redTo_inv hg e
    have hpl : a.piv.length ≤ n := hinv.pl
    have hpv := redTo_pv e
    replace q : PB PP F_impl_grid_reduce [gV .b n c M] (.tup [.agg [I n, I c, .sl .b 1 n (gC .b .b n c a.M), .rsl 0 1 0 a.piv.length, pQ .b a.det], Bo true]) [⟨.own, T_int, iC a.piv⟩] := q
    unfold nulV
    simp only
    generalize a.det = D at *
    generalize a.M = A at *
    generalize a.piv = p at *
    refine callB' q lB lF ?_
    simp -dsimp(disch:=first|exact om|fail)only[go_sem,↓reduceIte,Nat.reduceEqDiff,Nat.reduceAdd,Nat.reduceSub,Nat.reduceMul,Nat.reduceLT,Nat.reduceLeDiff,reduceCtorEq,a_eq,a_neq,a_cast0,a_pred,a_app1,a_zero,Int.reduceToNat]
    refine ⟨⟨[(1, .ptr .b [I n, I c, .sl .b 1 n (gC .b .b n c M)]), (4, .ptr .b [I n, I c, .sl .b 1 n (gC .b .b n c A), sI .s p, pQ .b D])], []⟩, ?_, ?_⟩
    · refine (StI.share 1 (cs' := iC p) rfl (by simp only [flat_iC]) LeL.lits cl_iC).trans ?_
      refine StI.trans (b := ⟨[(1, .ref 0 0), (4, .ref 1 0)], [⟨.own, T_impl_grid, [I n, I c, .sl .b 1 n (gC .b .b n c M)]⟩, ⟨.own, T_impl_reduced, [I n, I c, .sl .b 1 n (gC .b .b n c A), sI .s p, pQ .b D]⟩]⟩) (StI.ren [some 0, some 2] [[], []] lE (by decide) lW lW) ?_
      refine (StI.shareb 0 (cs' := [I n, I c, .sl .b 1 n (gC .b .b n c M)]) rfl lW lW lW).trans ?_
      refine (StI.shareb 1 (cs' := [I n, I c, .sl .b 1 n (gC .b .b n c A), sI .s p, pQ .b D]) rfl lW lW lW).trans ?_
      exact StI.ren [] [] lE (by decide) lW lW
    simp -dsimp(disch:=first|exact om|fail)only[go_sem,↓reduceIte,Nat.reduceEqDiff,Nat.reduceAdd,Nat.reduceSub,Nat.reduceMul,Nat.reduceLT,Nat.reduceLeDiff,reduceCtorEq,a_eq,a_neq,a_cast0,a_pred,a_app1,a_zero,Int.reduceToNat]
    refine loopJ (fun i : Nat => i ≤ p.length) (fun i => ⟨[(1, .ptr .b [I n, I c, .sl .b 1 n (gC .b .b n c M)]), (4, .ptr .b [I n, I c, .sl .b 1 n (gC .b .b n c A), sI .s p, pQ .b D]), (6, .mp 0), (26, sI .s p), (27, I p.length), (28, I i)], [⟨.mp, T_map_int_int, mpC p 0 i⟩]⟩) (fun i => p.length - i) 0 (by omega) ?_ ?_
    · exact StI.ren [some 0] [[]] lE (by decide) (by rw [show mpC p 0 0 = [] from rfl]; simp -dsimp(disch:=first|exact om|fail)only[go_sem,↓reduceIte,Nat.reduceEqDiff,Nat.reduceAdd,Nat.reduceSub,Nat.reduceMul,Nat.reduceLT,Nat.reduceLeDiff,reduceCtorEq,a_eq,a_neq,a_cast0,a_pred,a_app1,a_zero,Int.reduceToNat]) lW
    intro i hi
    by_cases h : i < p.length
    · have hget : mpGet .i64 (p.getD i 0) (mpC p 0 i) = some none := by
        rw [mpC_get, pix_none.2 fun j _ hj => by have := hpv.2 j i (by omega) h; omega]; rfl
      have hsu := mpC_succ (p := p) (m := i) (t := 0)
      rw [Nat.zero_add] at hsu
      simp -dsimp(disch:=first|exact om|fail)only[go_sem,↓reduceIte,Nat.reduceEqDiff,Nat.reduceAdd,Nat.reduceSub,Nat.reduceMul,Nat.reduceLT,Nat.reduceLeDiff,reduceCtorEq,a_eq,a_neq,a_cast0,a_pred,a_app1,a_zero,Int.reduceToNat, hget, hsu]
      exact ⟨i + 1, by omega, by omega, StI.ren [some 0] [[]] lE (by decide) (by simp -dsimp(disch:=first|exact om|fail)only[go_sem,↓reduceIte,Nat.reduceEqDiff,Nat.reduceAdd,Nat.reduceSub,Nat.reduceMul,Nat.reduceLT,Nat.reduceLeDiff,reduceCtorEq,a_eq,a_neq,a_cast0,a_pred,a_app1,a_zero,Int.reduceToNat]; exact RnL.same mpC_flat (fun h => by cases h)) lW⟩
    obtain rfl : i = p.length := by omega
    simp -dsimp(disch:=first|exact om|fail)only[go_sem,↓reduceIte,Nat.reduceEqDiff,Nat.reduceAdd,Nat.reduceSub,Nat.reduceMul,Nat.reduceLT,Nat.reduceLeDiff,reduceCtorEq,a_eq,a_neq,a_cast0,a_pred,a_app1,a_zero,Int.reduceToNat]
    refine loopJ (fun k : Nat => k ≤ c) (fun k => ⟨[(1, .ptr .b [I n, I c, .sl .b 1 n (gC .b .b n c M)]), (4, .ptr .b [I n, I c, .sl .b 1 n (gC .b .b n c A), sI .s p, pQ .b D]), (6, .mp 0), (9, .rsl 1 1 0 (nulL p A c k).length), (38, I c), (39, I k)], [⟨.mp, T_map_int_int, mpC p 0 p.length⟩, ⟨.own, T_sl_p_impl_ratio, rwC .b .b c (nulL p A c k)⟩]⟩) (fun k => c - k) 0 (by omega) ?_ ?_
    · refine StI.ren [some 0, none] [[], []] lE (by decide) (by simp -dsimp(disch:=first|exact om|fail)only[go_sem,↓reduceIte,Nat.reduceEqDiff,Nat.reduceAdd,Nat.reduceSub,Nat.reduceMul,Nat.reduceLT,Nat.reduceLeDiff,reduceCtorEq,a_eq,a_neq,a_cast0,a_pred,a_app1,a_zero,Int.reduceToNat]; exact ⟨RnL.same mpC_flat (fun h => by cases h), rfl⟩) (by simp -dsimp(disch:=first|exact om|fail)only[go_sem,↓reduceIte,Nat.reduceEqDiff,Nat.reduceAdd,Nat.reduceSub,Nat.reduceMul,Nat.reduceLT,Nat.reduceLeDiff,reduceCtorEq,a_eq,a_neq,a_cast0,a_pred,a_app1,a_zero,Int.reduceToNat]; rfl)
    intro k hk
    by_cases h : k < c
    · rcases hx : pix p k 0 p.length with _ | j
      · simp -dsimp(disch:=first|exact om|fail)only[go_sem,↓reduceIte,Nat.reduceEqDiff,Nat.reduceAdd,Nat.reduceSub,Nat.reduceMul,Nat.reduceLT,Nat.reduceLeDiff,reduceCtorEq,a_eq,a_neq,a_cast0,a_pred,a_app1,a_zero,Int.reduceToNat, mpC_get, hx, Option.map_none, mpY_no]
        rw [qs_nil]
        refine loopJ (fun y : Nat => y ≤ c) (fun y => ⟨[(1, .ptr .b [I n, I c, .sl .b 1 n (gC .b .b n c M)]), (4, .ptr .b [I n, I c, .sl .b 1 n (gC .b .b n c A), sI .s p, pQ .b D]), (6, .mp 0), (9, .rsl 1 1 0 (nulL p A c k).length), (10, I k), (13, .rsl 2 1 0 c), (38, I c), (39, I k), (53, I c), (54, I y)], [⟨.mp, T_map_int_int, mpC p 0 p.length⟩, ⟨.own, T_sl_p_impl_ratio, rwC .b .b c (nulL p A c k)⟩, ⟨.own, T_p_impl_ratio, qs .b (fillQ (rowQ c (nulF p A k)) y)⟩]⟩) (fun y => c - y) 0 (by omega) ?_ ?_
        · refine StI.ren [some 0, some 1, some 2] [[], [], []] lE (by decide) (by simp -dsimp(disch:=first|exact om|fail)only[go_sem,↓reduceIte,Nat.reduceEqDiff,Nat.reduceAdd,Nat.reduceSub,Nat.reduceMul,Nat.reduceLT,Nat.reduceLeDiff,reduceCtorEq,a_eq,a_neq,a_cast0,a_pred,a_app1,a_zero,Int.reduceToNat]; exact ⟨RnL.same mpC_flat (fun h => by cases h), RnL.same rwC_flat (fun h => by cases h), by rw [fillQ_zero, rowQ_length]; exact of_eq_true rnL_qs_b⟩) lW
        intro y hy
        by_cases h2 : y < c
        · have e2 : (fillQ (rowQ c (nulF p A k)) y).length = c := by simp [fillQ, rowQ]; omega
          have fin : ∀ x : FQ, x = nulF p A k y → qs .b ((fillQ (rowQ c (nulF p A k)) y).set y x) = qs .b (fillQ (rowQ c (nulF p A k)) (y + 1)) := fun x hx => by
            rw [fillQ_set (by rw [rowQ_length]; exact h2) (by rw [rowQ_get h2]; exact hx)]
          rcases hxy : pix p y 0 p.length with _ | j
          · by_cases hyk : y = k
            · subst hyk
              simp -dsimp(disch:=first|exact om|fail)only[go_sem,↓reduceIte,Nat.reduceEqDiff,Nat.reduceAdd,Nat.reduceSub,Nat.reduceMul,Nat.reduceLT,Nat.reduceLeDiff,reduceCtorEq,a_eq,a_neq,a_cast0,a_pred,a_app1,a_zero,Int.reduceToNat, mpC_get, hxy, Option.map_none, mpY_no]
              refine callB' (whole_b 1 (by omega)) lB lF ?_
              simp -dsimp(disch:=first|exact om|fail)only[go_sem,↓reduceIte,Nat.reduceEqDiff,Nat.reduceAdd,Nat.reduceSub,Nat.reduceMul,Nat.reduceLT,Nat.reduceLeDiff,reduceCtorEq,a_eq,a_neq,a_cast0,a_pred,a_app1,a_zero,Int.reduceToNat]
              exact ⟨y + 1, by omega, by omega, StI.ren [some 0, some 1, some 2] [[], [], []] lE (by decide) (by simp -dsimp(disch:=first|exact om|fail)only[go_sem,↓reduceIte,Nat.reduceEqDiff,Nat.reduceAdd,Nat.reduceSub,Nat.reduceMul,Nat.reduceLT,Nat.reduceLeDiff,reduceCtorEq,a_eq,a_neq,a_cast0,a_pred,a_app1,a_zero,Int.reduceToNat]; exact ⟨RnL.same mpC_flat (fun h => by cases h), RnL.same rwC_flat (fun h => by cases h), by rw [fin _ (by simp only [nulF, hxy, if_pos])]; exact of_eq_true rnL_qs_b⟩) lW⟩
            · have hyk' : ¬ (y : Int) = (k : Int) := by omega
              simp -dsimp(disch:=first|exact om|fail)only[go_sem,↓reduceIte,Nat.reduceEqDiff,Nat.reduceAdd,Nat.reduceSub,Nat.reduceMul,Nat.reduceLT,Nat.reduceLeDiff,reduceCtorEq,a_eq,a_neq,a_cast0,a_pred,a_app1,a_zero,Int.reduceToNat, mpC_get, hxy, Option.map_none, mpY_no, hyk']
              refine callB' (whole_b 0 (by omega)) lB lF ?_
              simp -dsimp(disch:=first|exact om|fail)only[go_sem,↓reduceIte,Nat.reduceEqDiff,Nat.reduceAdd,Nat.reduceSub,Nat.reduceMul,Nat.reduceLT,Nat.reduceLeDiff,reduceCtorEq,a_eq,a_neq,a_cast0,a_pred,a_app1,a_zero,Int.reduceToNat]
              exact ⟨y + 1, by omega, by omega, StI.ren [some 0, some 1, some 2] [[], [], []] lE (by decide) (by simp -dsimp(disch:=first|exact om|fail)only[go_sem,↓reduceIte,Nat.reduceEqDiff,Nat.reduceAdd,Nat.reduceSub,Nat.reduceMul,Nat.reduceLT,Nat.reduceLeDiff,reduceCtorEq,a_eq,a_neq,a_cast0,a_pred,a_app1,a_zero,Int.reduceToNat]; exact ⟨RnL.same mpC_flat (fun h => by cases h), RnL.same rwC_flat (fun h => by cases h), by rw [fin _ (by simp only [nulF, hxy, if_neg hyk])]; exact of_eq_true rnL_qs_b⟩) lW⟩
          · obtain ⟨_, hj2, hj3⟩ := pix_some hxy
            simp -dsimp(disch:=first|exact om|fail)only[go_sem,↓reduceIte,Nat.reduceEqDiff,Nat.reduceAdd,Nat.reduceSub,Nat.reduceMul,Nat.reduceLT,Nat.reduceLeDiff,reduceCtorEq,a_eq,a_neq,a_cast0,a_pred,a_app1,a_zero,Int.reduceToNat, mpC_get, hxy, Option.map_some, mpY_yes]
            refine callB' (neg_b (A j k)) (by intro v hv; simp only [List.mem_cons, List.not_mem_nil, or_false] at hv; subst hv; exact of_eq_true fl2_pQ) lF ?_
            simp -dsimp(disch:=first|exact om|fail)only[go_sem,↓reduceIte,Nat.reduceEqDiff,Nat.reduceAdd,Nat.reduceSub,Nat.reduceMul,Nat.reduceLT,Nat.reduceLeDiff,reduceCtorEq,a_eq,a_neq,a_cast0,a_pred,a_app1,a_zero,Int.reduceToNat]
            exact ⟨y + 1, by omega, by omega, StI.ren [some 0, some 1, some 2] [[], [], []] lE (by decide) (by simp -dsimp(disch:=first|exact om|fail)only[go_sem,↓reduceIte,Nat.reduceEqDiff,Nat.reduceAdd,Nat.reduceSub,Nat.reduceMul,Nat.reduceLT,Nat.reduceLeDiff,reduceCtorEq,a_eq,a_neq,a_cast0,a_pred,a_app1,a_zero,Int.reduceToNat]; exact ⟨RnL.same mpC_flat (fun h => by cases h), RnL.same rwC_flat (fun h => by cases h), by rw [fin _ (by simp only [nulF, hxy])]; exact of_eq_true rnL_qs_b⟩) lW⟩
        · obtain rfl : y = c := by omega
          have e3 := fillQ_full (l := rowQ y (nulF p A k))
          rw [rowQ_length] at e3
          have hlk : (nulL p A y k).length ≤ k := nulL_len
          rw [e3]
          simp -dsimp(disch:=first|exact om|fail)only[go_sem,↓reduceIte,Nat.reduceEqDiff,Nat.reduceAdd,Nat.reduceSub,Nat.reduceMul,Nat.reduceLT,Nat.reduceLeDiff,reduceCtorEq,a_eq,a_neq,a_cast0,a_pred,a_app1,a_zero,Int.reduceToNat]
          refine ⟨rwC_length, k + 1, by omega, by omega, (StI.shareb 2 (cs' := qs .b (rowQ y (nulF p A k))) rfl lW (leL_qsbb flb) lW).trans (StI.ren [some 0, some 4] [[], []] lE (by decide) ?_ ?_)⟩
          · simp -dsimp(disch:=first|exact om|fail)only[go_sem,↓reduceIte,Nat.reduceEqDiff,Nat.reduceAdd,Nat.reduceSub,Nat.reduceMul,Nat.reduceLT,Nat.reduceLeDiff,reduceCtorEq,a_eq,a_neq,a_cast0,a_pred,a_app1,a_zero,Int.reduceToNat]
            refine ⟨RnL.same mpC_flat (fun h => by cases h), ?_⟩
            rw [show nulL p A y (k + 1) = nulL p A y k ++ [rowQ y (nulF p A k)] by unfold nulL; rw [nulK_yes hx, List.map_append]; rfl, rwC_app]
            refine RnL.app (k1 := []) (RnL.same rwC_flat (fun h => by cases h)) (.cons _ _ _ _ _ _ [] [] ?_ (.nil _ _))
            exact rn_rowb rfl rowQ_length
          · simp -dsimp(disch:=first|exact om|fail)only[go_sem,↓reduceIte,Nat.reduceEqDiff,Nat.reduceAdd,Nat.reduceSub,Nat.reduceMul,Nat.reduceLT,Nat.reduceLeDiff,reduceCtorEq,a_eq,a_neq,a_cast0,a_pred,a_app1,a_zero,Int.reduceToNat]
            rw [show nulL p A y (k + 1) = nulL p A y k ++ [rowQ y (nulF p A k)] by unfold nulL; rw [nulK_yes hx, List.map_append]; rfl]
            simp
      · simp -dsimp(disch:=first|exact om|fail)only[go_sem,↓reduceIte,Nat.reduceEqDiff,Nat.reduceAdd,Nat.reduceSub,Nat.reduceMul,Nat.reduceLT,Nat.reduceLeDiff,reduceCtorEq,a_eq,a_neq,a_cast0,a_pred,a_app1,a_zero,Int.reduceToNat, mpC_get, hx, Option.map_some, mpY_yes]
        rw [show nulL p A c k = nulL p A c (k + 1) by unfold nulL; rw [nulK_no hx]]
        exact ⟨k + 1, by omega, by omega, StI.ren [some 0, some 1] [[], []] lE (by decide) (by simp -dsimp(disch:=first|exact om|fail)only[go_sem,↓reduceIte,Nat.reduceEqDiff,Nat.reduceAdd,Nat.reduceSub,Nat.reduceMul,Nat.reduceLT,Nat.reduceLeDiff,reduceCtorEq,a_eq,a_neq,a_cast0,a_pred,a_app1,a_zero,Int.reduceToNat]; exact ⟨RnL.same mpC_flat (fun h => by cases h), RnL.same rwC_flat (fun h => by cases h)⟩) lW⟩
    · obtain rfl : k = c := by omega
      simp -dsimp(disch:=first|exact om|fail)only[go_sem,↓reduceIte,Nat.reduceEqDiff,Nat.reduceAdd,Nat.reduceSub,Nat.reduceMul,Nat.reduceLT,Nat.reduceLeDiff,reduceCtorEq,a_eq,a_neq,a_cast0,a_pred,a_app1,a_zero,Int.reduceToNat]
      refine RtB.shareb 1 (cs' := rwC .b .b k (nulL p A k k)) rfl rwC_flat leL_rwCb rwC_flat ?_
      refine RtB.nothing [] (by decide) trivial (.tup _ _ _ _ _ (.cons _ _ _ _ _ _ [] [] (rn_rwb rfl) (.cons _ _ _ _ _ _ [] [] (.same _ _ _ trivial (fun h => by cases h)) (.nil _ _))))
end Go.Proofs.Ytgkimfncegbeaaa
