/- part of the proof -/
import Derived.Test.YtgkimfncegbeaaaTXl
namespace Go.Proofs.Ytgkimfncegbeaaa
open Go Go.RowKit
set_option maxRecDepth 100000
set_option maxHeartbeats 4000000
set_option linter.unusedVariables false
set_option linter.unusedSimpArgs false
def FirstP (M : Nat → Nat → FQ) (k used n j : Nat) : Prop := used ≤ j ∧ j ≤ n ∧ (∀ i, used ≤ i → i < j → (M i k).num = 0) ∧ (j < n → (M j k).num ≠ 0)
theorem FirstP.uniq {M : Nat → Nat → FQ} {k used n j j' : Nat} (h : FirstP M k used n j) (h' : FirstP M k used n j') : j = j' := by
  obtain ⟨a1, a2, a3, a4⟩ := h
  obtain ⟨b1, b2, b3, b4⟩ := h'
  rcases Nat.lt_trichotomy j j' with h | h | h
  · exact absurd (b3 j a1 h) (a4 (by omega))
  · exact h
  · exact absurd (a3 j' b1 h) (b4 (by omega))
noncomputable def firstR (M : Nat → Nat → FQ) (k used n : Nat) : Nat := by
  classical exact if h : ∃ j, FirstP M k used n j then h.choose else 0
theorem firstR_eq {M : Nat → Nat → FQ} {k used n j : Nat} (h : FirstP M k used n j) : firstR M k used n = j := by
  unfold firstR
  rw [dif_pos ⟨j, h⟩]
  exact FirstP.uniq (Exists.choose_spec _) h
structure RS where
  M : Nat → Nat → FQ
  piv : List Int
  det : FQ
def swapM (M : Nat → Nat → FQ) (a b : Nat) : Nat → Nat → FQ := fun i => if i = a then M b else if i = b then M a else M i
def divM (S : Nat → Nat → FQ) (used k : Nat) : Nat → FQ := fun j => (S used j).div (S used k)
def clrM (S : Nat → Nat → FQ) (used k : Nat) : Nat → Nat → FQ := fun i j =>
  if i = used then divM S used k j else if (S i k).num = 0 then S i j else (S i j).sub ((S i k).mul (divM S used k j))
noncomputable def redStep (n c : Nat) (st : RS) (k : Nat) : Option RS :=
  if firstR st.M k st.piv.length n = n then some st
  else
    let S := swapM st.M (firstR st.M k st.piv.length n) st.piv.length
    let T := clrM S st.piv.length k
    if allG (gridL n c T) = true then some ⟨T, st.piv ++ [(k : Int)], (if firstR st.M k st.piv.length n = st.piv.length then st.det else st.det.neg).mul (S st.piv.length k)⟩ else none
abbrev resO : Ob := ⟨.own, T_impl_reduced, [I 0, I 0, .emp, .emp, .lit (.pointer none)]⟩
abbrev stO (n c np : Nat) (det : FQ) : Ob := ⟨.own, T_impl_reduced, [I n, I c, .rsl 2 1 0 n, .rsl 3 1 0 np, pQ .s det]⟩
abbrev redH (n c : Nat) (st : RS) : List Ob := [resO, stO n c st.piv.length st.det, ⟨.own, T_sl_p_impl_ratio, gC .u .s n c st.M⟩, ⟨.own, T_int, iC st.piv⟩]
abbrev failH (n np : Nat) : List Ob := [resO, ⟨.own, T_impl_reduced, [.any, .any, .any, .any, .any]⟩, ⟨.own, T_sl_p_impl_ratio, List.replicate n .any⟩, ⟨.own, T_int, List.replicate np .any⟩]
attribute [go_sem] resO stO redH failH
noncomputable def redO (n c : Nat) (st : RS) (k : Nat) : List Ob := match redStep n c st k with
  | none => failH n st.piv.length
  | some st' => if firstR st.M k st.piv.length n = n then redH n c st
    else [resO, ⟨.own, T_impl_reduced, [I n, I c, .rsl 2 1 0 n, .rsl 4 1 0 (st.piv.length + 1), pQ .s st'.det]⟩, ⟨.own, T_sl_p_impl_ratio, gC .u .s n c st'.M⟩, ⟨.dead, T_int, iC st.piv⟩, ⟨.own, T_int, iC (st.piv ++ [(k : Int)])⟩]
@[go_sem] theorem get_set {α : Type} {L : List α} {i : Nat} {v : α} (h : OM (i < L.length)) : ((L.set i v).drop i)[0]? = some v := by
  have h : i < L.length := h
  simp [h]
theorem gC_at {f φ : Fl} {n c : Nat} {M : Nat → Nat → FQ} {i : Nat} (h : i < n) : (gC f φ n c M)[i]? = some (.sl f 1 c (qs φ (rowQ c (M i)))) := by
  simp [gC, h]
theorem rnL_at {H : List Ob} {js : List (Option Nat)} {bk : Bool} : ∀ {L L' : List V} {i : Nat} {ks : List Nat}, L.length = L'.length → i < L.length → (∀ (v v' : V), L[i]? = some v → L'[i]? = some v' → Rn H js bk v v' ks) → (∀ (j : Nat) (v v' : V), j ≠ i → L[j]? = some v → L'[j]? = some v' → Rn H js bk v v' []) → RnL H js bk L L' ks
  | [], [], i, ks, _, hi, _, _ => by simp at hi
  | v :: L, v' :: L', 0, ks, hl, hi, h1, h2 => by
    have q : RnL H js bk L L' [] := by
      have go : ∀ {L L' : List V}, L.length = L'.length → (∀ (j : Nat) (v v' : V), L[j]? = some v → L'[j]? = some v' → Rn H js bk v v' []) → RnL H js bk L L' [] := by
        intro L
        induction L with
        | nil => intro L' hl _; cases L' with
          | nil => exact .nil _ _
          | cons _ _ => simp at hl
        | cons a L ih => intro L' hl h; cases L' with
          | nil => simp at hl
          | cons a' L' => exact .cons _ _ _ _ _ _ [] [] (h 0 a a' rfl rfl) (ih (by simpa using hl) (fun j v v' e1 e2 => h (j + 1) v v' (by simpa using e1) (by simpa using e2)))
      exact go (by simpa using hl) (fun j w w' e1 e2 => h2 (j + 1) w w' (by omega) (by simpa using e1) (by simpa using e2))
    have := RnL.cons js bk v v' L L' ks [] (h1 v v' rfl rfl) q
    rwa [List.append_nil] at this
  | v :: L, v' :: L', i + 1, ks, hl, hi, h1, h2 => by
    have q : RnL H js bk L L' ks := rnL_at (i := i) (by simpa using hl) (by simpa using hi) (fun w w' e1 e2 => h1 w w' (by simpa using e1) (by simpa using e2)) (fun j w w' hj e1 e2 => h2 (j + 1) w w' (by omega) (by simpa using e1) (by simpa using e2))
    have := RnL.cons js bk v v' L L' [] ks (h2 0 v v' (by omega) rfl rfl) q
    simpa using this
theorem rn_flat {H : List Ob} {js : List (Option Nat)} {v : V} (h : v.flat) : Rn H js true v v [] := .same _ _ _ h (fun h => by cases h)
theorem rnL_close {H : List Ob} {js : List (Option Nat)} {n c i id : Nat} {ty : TypeId} {M M' : Nat → Nat → FQ} (hi : i < n) (h : H[id]? = some ⟨.own, ty, qs .s (rowQ c (M' i))⟩) (ho : ∀ j, j < n → j ≠ i → M' j = M j) :
    RnL H js true ((gC .u .s n c M).set i (.rsl id 1 0 c)) (gC .u .s n c M') [id] := by
  refine rnL_at (i := i) (by simp [gC]) (by simp [gC, hi]) ?_ ?_
  · intro v v' e1 e2
    rw [gC_at hi] at e2
    rw [List.getElem?_set_self (by simp [gC, hi])] at e1
    cases e1; cases e2
    exact rn_row h rowQ_length
  · intro j v v' hj e1 e2
    have hjn : j < n := by have := (List.getElem?_eq_some_iff.1 e2).1; simpa [gC] using this
    rw [gC_at hjn] at e2
    rw [List.getElem?_set_ne (by omega), gC_at hjn] at e1
    cases e1; cases e2
    rw [ho j hjn hj]
    exact rn_flat trivial
theorem take1_nu {L : List V} {j : Nat} {v : V} (h : (L.drop j)[0]? = some v) (hv : v.nu) : (∀ c ∈ (L.drop j).take 1, c.nu) = True := by
  refine eq_true fun c hc => ?_
  cases e : L.drop j with
  | nil => rw [e] at h; simp at h
  | cons a r =>
    rw [e] at h hc
    simp only [List.getElem?_cons_zero, Option.some.injEq] at h
    simp only [List.take_succ_cons, List.take_zero, List.mem_cons, List.not_mem_nil, or_false] at hc
    subst hc; subst h; exact hv
theorem cutL {K : St → Prop} {s : St} {G : Prop} (h1 : K s → G) (h2 : K s) : G := h1 h2
theorem set_eq {L : List V} {i : Nat} {v : V} (h : OM (i < L.length)) : L.take i ++ [v] ++ L.drop (i + 1) = L.set i v := by
  have h : i < L.length := h
  rw [List.set_eq_take_append_cons_drop, if_pos h, List.append_assoc]; rfl
theorem get_set_ne {L : List V} {i j : Nat} {v : V} (h : OM (i ≠ j)) : ((L.set i v).drop j)[0]? = (L.drop j)[0]? := by
  have h : i ≠ j := h
  rw [List.getElem?_drop, List.getElem?_drop, Nat.add_zero, List.getElem?_set_ne h]
theorem rowQ_upd {c t : Nat} {g : Nat → FQ} {x : FQ} (h : t < c) : (rowQ c g).set t x = rowQ c (fun j => if j = t then x else g j) := by
  refine List.ext_getElem (by simp [rowQ]) fun p h1 h2 => ?_
  rw [List.getElem_set]
  simp only [rowQ, List.getElem_map, List.getElem_range]
  by_cases e : t = p
  · rw [if_pos e, if_pos e.symm]
  · rw [if_neg e, if_neg (Ne.symm e)]
theorem rnL_keep {H : List Ob} {js : List (Option Nat)} {n c i a b : Nat} {M : Nat → Nat → FQ} (hi : i < n) (h : js[b]? = some (some a)) :
    RnL H js true ((gC .u .s n c M).set i (.rsl a 1 0 c)) ((gC .u .s n c M).set i (.rsl b 1 0 c)) [] := by
  refine rnL_at (i := i) (by simp [gC]) (by simp [gC, hi]) ?_ ?_
  · intro v v' e1 e2
    rw [List.getElem?_set_self (by simp [gC, hi])] at e1 e2
    cases e1; cases e2
    exact .rsl _ _ _ _ _ _ _ h
  · intro j v v' hj e1 e2
    have hjn : j < n := by have := (List.getElem?_eq_some_iff.1 e2).1; simpa [gC] using this
    rw [List.getElem?_set_ne (by omega), gC_at hjn] at e1 e2
    cases e1; cases e2
    exact rn_flat trivial
theorem rnL_close2 {H : List Ob} {js : List (Option Nat)} {n c i q a b id : Nat} {ty : TypeId} {L : List V} {M' : Nat → Nat → FQ} (hi : i < n) (hq : q < n) (hiq : i ≠ q) (hl : L.length = n) (h : H[id]? = some ⟨.own, ty, qs .s (rowQ c (M' i))⟩) (hLi : L[i]? = some (.rsl id 1 0 c)) (hLq : L[q]? = some (.rsl a 1 0 c)) (hb : js[b]? = some (some a))
    (ho : ∀ j, j < n → j ≠ i → j ≠ q → L[j]? = some (.sl .u 1 c (qs .s (rowQ c (M' j))))) :
    RnL H js true L ((gC .u .s n c M').set q (.rsl b 1 0 c)) [id] := by
  refine rnL_at (i := i) (by simp [gC, hl]) (by omega) ?_ ?_
  · intro v v' e1 e2
    rw [List.getElem?_set_ne (by omega), gC_at hi] at e2
    rw [hLi] at e1
    cases e1; cases e2
    exact rn_row h rowQ_length
  · intro j v v' hj e1 e2
    have hjn : j < n := by have := (List.getElem?_eq_some_iff.1 e1).1; omega
    by_cases hjq : j = q
    · subst hjq
      rw [List.getElem?_set_self (by simp [gC, hq])] at e2
      rw [hLq] at e1
      cases e1; cases e2
      exact .rsl _ _ _ _ _ _ _ hb
    · rw [List.getElem?_set_ne (by omega), gC_at hjn] at e2
      rw [ho j hjn hj hjq] at e1
      cases e1; cases e2
      exact rn_flat trivial
theorem rnL_self {H : List Ob} {js : List (Option Nat)} : ∀ {L : List V}, (∀ v ∈ L, Rn H js true v v []) → RnL H js true L L []
  | [], _ => .nil _ _
  | v :: L, h => .cons _ _ _ _ _ _ [] [] (h v (by simp)) (rnL_self fun w hw => h w (by simp [hw]))
theorem mem_set2 {n c i q : Nat} {x y v : V} {M : Nat → Nat → FQ} (h : v ∈ ((gC .u .s n c M).set i x).set q y) : v = y ∨ v = x ∨ v.flat := by
  rcases List.mem_or_eq_of_mem_set h with h | h
  · rcases List.mem_or_eq_of_mem_set h with h | h
    · exact .inr (.inr (gC_flat v h))
    · exact .inr (.inl h)
  · exact .inl h
def mixF (g h : Nat → FQ) (t : Nat) : Nat → FQ := fun j => if j < t then h j else g j
theorem mixF_zero {g h : Nat → FQ} : mixF g h 0 = g := by funext j; unfold mixF; rw [if_neg (by omega)]
theorem mixF_at {g h : Nat → FQ} {t : Nat} : mixF g h t t = g t := by unfold mixF; rw [if_neg (by omega)]
theorem mixF_set {g h : Nat → FQ} {t c : Nat} {x : FQ} (ht : t < c) (e : x = h t) : (rowQ c (mixF g h t)).set t x = rowQ c (mixF g h (t + 1)) := by
  rw [rowQ_upd ht]
  congr 1
  funext j
  unfold mixF
  subst e
  by_cases e : j = t
  · subst e; rw [if_pos rfl, if_pos (by omega)]
  · rw [if_neg e]
    by_cases h1 : j < t
    · rw [if_pos h1, if_pos (by omega)]
    · rw [if_neg h1, if_neg (by omega)]
theorem mixF_full {g h : Nat → FQ} {c : Nat} : rowQ c (mixF g h c) = rowQ c h := by
  unfold rowQ
  exact List.map_congr_left fun j hj => by unfold mixF; rw [if_pos (List.mem_range.1 hj)]
theorem rnL_anys {H : List Ob} {js : List (Option Nat)} {bk : Bool} : ∀ {L : List V} {n : Nat}, L.length = n → RnL H js bk L (List.replicate n .any) []
  | [], n, h => by subst h; exact .nil _ _
  | v :: L, n, h => by subst h; exact .cons _ _ _ _ _ _ [] [] (.any _ _ _) (rnL_anys rfl)
theorem gridL_bad {n c a b : Nat} {M : Nat → Nat → FQ} (ha : a < n) (hb : b < c) (h : (M a b).good = false) : allG (gridL n c M) = false := by
  cases e : allG (gridL n c M) with
  | false => rfl
  | true =>
    rw [allG_mem] at e
    have := e (M a b) (List.mem_flatMap.2 ⟨a, List.mem_range.2 ha, List.mem_map.2 ⟨b, List.mem_range.2 hb, rfl⟩⟩)
    rw [h] at this; exact absurd this (by decide)
theorem stI_fail {tm : List (Nat × V)} {n np : Nat} {a b d e f : V} {L : List V} {P : List Int} {rest : List Ob} {t1 t2 t3 : TypeId} (hL : L.length = n) (hP : P.length = np) :
    StI 4 ⟨tm, resO :: ⟨.own, t1, [a, b, d, e, f]⟩ :: ⟨.own, t2, L⟩ :: ⟨.own, t3, iC P⟩ :: rest⟩ ⟨[], [resO, ⟨.own, t1, [.any, .any, .any, .any, .any]⟩, ⟨.own, t2, List.replicate n .any⟩, ⟨.own, t3, List.replicate np .any⟩]⟩ := by
  refine StI.ren [some 0, some 1, some 2, some 3] [[], [], [], []] ⟨rfl, rfl, rfl, rfl, trivial⟩ (by decide) ?_ trivial
  simp -dsimp(disch:=first|exact om|fail)only[go_sem,↓reduceIte,Nat.reduceEqDiff,Nat.reduceAdd,Nat.reduceSub,Nat.reduceMul,Nat.reduceLT,Nat.reduceLeDiff,reduceCtorEq,a_eq,a_neq,a_cast0,a_pred,a_app1,a_zero,Int.reduceToNat]
  exact ⟨rnL_anys hL, rnL_anys (by simp [iC, hP])⟩
theorem rnL_keep' {H : List Ob} {js : List (Option Nat)} {n c i a b : Nat} {M M' : Nat → Nat → FQ} (hi : i < n) (h : js[b]? = some (some a)) (ho : ∀ j, j < n → j ≠ i → M' j = M j) :
    RnL H js true ((gC .u .s n c M).set i (.rsl a 1 0 c)) ((gC .u .s n c M').set i (.rsl b 1 0 c)) [] := by
  refine rnL_at (i := i) (by simp [gC]) (by simp [gC, hi]) ?_ ?_
  · intro v v' e1 e2
    rw [List.getElem?_set_self (by simp [gC, hi])] at e1 e2
    cases e1; cases e2
    exact .rsl _ _ _ _ _ _ _ h
  · intro j v v' hj e1 e2
    have hjn : j < n := by have := (List.getElem?_eq_some_iff.1 e2).1; simpa [gC] using this
    rw [List.getElem?_set_ne (by omega), gC_at hjn] at e1 e2
    rw [ho j hjn hj] at e2
    cases e1; cases e2
    exact rn_flat trivial
theorem column_ic (n c k : Nat) (hn : n ≤ 24) (hc : c ≤ 64) (hk : k < c) (st : RS) (hp : st.piv.length < n) (hg : ∀ i j, i < n → j < c → (st.M i j).good = true) :
    IC PP F_impl_reduced_column [.ref 1 0, I k] (redH n c st) (Bo (redStep n c st k).isSome) (redO n c st k) := by
  have hO : redO n c st k = match redStep n c st k with
    | none => failH n st.piv.length
    | some st' => if firstR st.M k st.piv.length n = n then redH n c st
      else [resO, ⟨.own, T_impl_reduced, [I n, I c, .rsl 2 1 0 n, .rsl 4 1 0 (st.piv.length + 1), pQ .s st'.det]⟩, ⟨.own, T_sl_p_impl_ratio, gC .u .s n c st'.M⟩, ⟨.dead, T_int, iC st.piv⟩, ⟨.own, T_int, iC (st.piv ++ [(k : Int)])⟩] := rfl
  have hR : redStep n c st k = if firstR st.M k st.piv.length n = n then some st
    else (if allG (gridL n c (clrM (swapM st.M (firstR st.M k st.piv.length n) st.piv.length) st.piv.length k)) = true then
      some ⟨clrM (swapM st.M (firstR st.M k st.piv.length n) st.piv.length) st.piv.length k, st.piv ++ [(k : Int)], (if firstR st.M k st.piv.length n = st.piv.length then st.det else st.det.neg).mul (swapM st.M (firstR st.M k st.piv.length n) st.piv.length st.piv.length k)⟩ else none) := rfl
  rw [hO]
  obtain ⟨M, piv, det⟩ := st
  simp only at hp hg hR ⊢
  have hgl : (gC .u .s n c M).length = n := gC_length
  generalize redStep n c ⟨M, piv, det⟩ k = out at *
  obtain ⟨np, hnp⟩ : ∃ np, np = piv.length := ⟨_, rfl⟩
  rw [← hnp] at hp hR ⊢
  refine txi W_impl_reduced_column ke_impl_reduced_column [] [4, 9, 11, 22, 18, 30, 33] [] (by kernel_rfl) ?_
  simp -dsimp(disch:=first|exact om|fail)only[go_sem,↓reduceIte,Nat.reduceEqDiff,Nat.reduceAdd,Nat.reduceSub,Nat.reduceMul,Nat.reduceLT,Nat.reduceLeDiff,reduceCtorEq,a_eq,a_neq,a_cast0,a_pred,a_app1,a_zero,Int.reduceToNat]
  refine loopJ (fun j : Nat => np ≤ j ∧ j ≤ n ∧ ∀ i, np ≤ i → i < j → (M i k).num = 0) (fun j => ⟨[(0, .ref 1 0), (1, I k), (5, .rsl 2 1 0 n), (6, I np), (7, I j)], [resO, stO n c np det, ⟨.own, T_sl_p_impl_ratio, gC .u .s n c M⟩, ⟨.own, T_int, iC piv⟩]⟩) (fun j => n - j) np ⟨by omega, by omega, fun i h1 h2 => by omega⟩ ?_ ?_
  · refine StI.ren [some 0, some 1, some 2, some 3] [[], [], [], []] ⟨rfl, rfl, rfl, rfl, trivial⟩ (by decide) ?_ lW
    simp -dsimp(disch:=first|exact om|fail)only[go_sem,↓reduceIte,Nat.reduceEqDiff,Nat.reduceAdd,Nat.reduceSub,Nat.reduceMul,Nat.reduceLT,Nat.reduceLeDiff,reduceCtorEq,a_eq,a_neq,a_cast0,a_pred,a_app1,a_zero,Int.reduceToNat]
    exact ⟨hnp.symm, RnL.same gC_flat (fun h => by cases h)⟩
  rintro j ⟨hj1, hj2, hz⟩
  by_cases h : j < n
  · simp -dsimp(disch:=first|exact om|fail)only[go_sem,↓reduceIte,Nat.reduceEqDiff,Nat.reduceAdd,Nat.reduceSub,Nat.reduceMul,Nat.reduceLT,Nat.reduceLeDiff,reduceCtorEq,a_eq,a_neq,a_cast0,a_pred,a_app1,a_zero,Int.reduceToNat]
    refine ⟨⟨[(0, .ref 1 0), (1, I k), (5, .rsl 2 1 0 n), (6, I np), (7, I j)], [resO, stO n c np det, ⟨.own, T_sl_p_impl_ratio, (gC .u .s n c M).set j (.rsl 4 1 0 c)⟩, ⟨.own, T_int, iC piv⟩, ⟨.own, T_p_impl_ratio, qs .s (rowQ c (M j))⟩]⟩, StI.open 2 j rfl (gC_at h) T_p_impl_ratio, ?_⟩
    have hsl : ((gC .u .s n c M).set j (.rsl 4 1 0 c)).length = n := by rw [List.length_set, hgl]
    have hget : (((gC .u .s n c M).set j (.rsl 4 1 0 c)).drop j)[0]? = some (.rsl 4 1 0 c) := get_set (OM.mk (by omega))
    have hgj := hg j k h hk
    have hnu := take1_nu hget (by trivial)
    simp -dsimp(disch:=first|exact om|fail)only[go_sem,↓reduceIte,Nat.reduceEqDiff,Nat.reduceAdd,Nat.reduceSub,Nat.reduceMul,Nat.reduceLT,Nat.reduceLeDiff,reduceCtorEq,a_eq,a_neq,a_cast0,a_pred,a_app1,a_zero,Int.reduceToNat, hget, hnu]
    refine callP (signR_c .s fls (M j k) hgj) lL ?_
    by_cases hz0 : (M j k).num = 0
    · rw [hz0, show sgZ 0 = 0 from rfl]
      simp -dsimp(disch:=first|exact om|fail)only[go_sem,↓reduceIte,Nat.reduceEqDiff,Nat.reduceAdd,Nat.reduceSub,Nat.reduceMul,Nat.reduceLT,Nat.reduceLeDiff,reduceCtorEq,a_eq,a_neq,a_cast0,a_pred,a_app1,a_zero,Int.reduceToNat]
      refine ⟨j + 1, ⟨by omega, by omega, fun i h1 h2 => ?_⟩, by omega, ?_⟩
      · rcases Nat.lt_or_eq_of_le (Nat.le_of_lt_succ h2) with h3 | rfl
        · exact hz i h1 h3
        · exact hz0
      · refine StI.ren [some 0, some 1, some 2, some 3] [[], [], [4], []] ⟨rfl, rfl, rfl, rfl, trivial⟩ (by decide) ?_ lW
        simp -dsimp(disch:=first|exact om|fail)only[go_sem,↓reduceIte,Nat.reduceEqDiff,Nat.reduceAdd,Nat.reduceSub,Nat.reduceMul,Nat.reduceLT,Nat.reduceLeDiff,reduceCtorEq,a_eq,a_neq,a_cast0,a_pred,a_app1,a_zero,Int.reduceToNat]
        exact rnL_close h rfl (fun _ _ _ => rfl)
    · have hsg : ¬ sgZ (M j k).num = 0 := by unfold sgZ; rw [if_neg hz0]; split <;> decide
      have hf : firstR M k np n = j := firstR_eq ⟨hj1, hj2, hz, fun _ => hz0⟩
      have hjn : ¬ (j : Int) = (n : Int) := by omega
      obtain ⟨S, hS⟩ : ∃ S, S = swapM M j np := ⟨_, rfl⟩
      obtain ⟨d, hd⟩ : ∃ d, d = if j = np then det else det.neg := ⟨_, rfl⟩
      rw [hf, if_neg (by omega), ← hS, ← hd] at hR
      simp -dsimp(disch:=first|exact om|fail)only[go_sem,↓reduceIte,Nat.reduceEqDiff,Nat.reduceAdd,Nat.reduceSub,Nat.reduceMul,Nat.reduceLT,Nat.reduceLeDiff,reduceCtorEq,a_eq,a_neq,a_cast0,a_pred,a_app1,a_zero,Int.reduceToNat, hsg, hjn]
      apply cutL (s := ⟨[(0, .ref 1 0), (1, I k), (5, .rsl 2 1 0 n), (6, I np)], [⟨.own, T_impl_reduced, [I 0, I 0, .emp, .emp, .lit (.pointer none)]⟩, ⟨.own, T_impl_reduced, [I n, I c, .rsl 2 1 0 n, .rsl 3 1 0 np, pQ .s d]⟩, ⟨.own, T_sl_p_impl_ratio, (gC .u .s n c S).set np (.rsl 4 1 0 c)⟩, ⟨.own, T_int, iC piv⟩, ⟨.own, T_p_impl_ratio, qs .s (rowQ c (S np))⟩]⟩)
      · intro main
        by_cases hjp : j = np
        · have hjp' : (j : Int) = (np : Int) := by omega
          have hSM : S = M := by
            rw [hS, hjp]; funext i; unfold swapM
            split
            · rename_i e; rw [e]
            · rfl
          have hdd : d = det := by rw [hd, if_pos hjp]
          simp -dsimp(disch:=first|exact om|fail)only[go_sem,↓reduceIte,Nat.reduceEqDiff,Nat.reduceAdd,Nat.reduceSub,Nat.reduceMul,Nat.reduceLT,Nat.reduceLeDiff,reduceCtorEq,a_eq,a_neq,a_cast0,a_pred,a_app1,a_zero,Int.reduceToNat]
          refine ⟨_, ?_, main⟩
          rw [hSM, hdd]
          refine StI.ren [some 0, some 1, some 2, some 3, some 4] [[], [], [], [], []] ⟨rfl, rfl, rfl, rfl, trivial⟩ (by decide) ?_ lW
          rw [hjp]
          simp -dsimp(disch:=first|exact om|fail)only[go_sem,↓reduceIte,Nat.reduceEqDiff,Nat.reduceAdd,Nat.reduceSub,Nat.reduceMul,Nat.reduceLT,Nat.reduceLeDiff,reduceCtorEq,a_eq,a_neq,a_cast0,a_pred,a_app1,a_zero,Int.reduceToNat]
          exact rnL_keep hp rfl
        · have hjp' : ¬ (j : Int) = (np : Int) := by omega
          have hne : j ≠ np := hjp
          have hdd : d = det.neg := by rw [hd, if_neg hjp]
          have hget5 : ((((gC .u .s n c M).set j (.rsl 4 1 0 c)).set np (.rsl 5 1 0 c)).drop np)[0]? = some (.rsl 5 1 0 c) := get_set (OM.mk (by omega))
          have hget4 : ((((gC .u .s n c M).set j (.rsl 4 1 0 c)).set np (.rsl 5 1 0 c)).drop j)[0]? = some (.rsl 4 1 0 c) := by rw [get_set_ne (OM.mk (Ne.symm hne))]; exact hget
          have hnu5 := take1_nu hget5 (by trivial)
          have hnu4 := take1_nu hget4 (by trivial)
          have hL2 : (((gC .u .s n c M).set j (.rsl 4 1 0 c)).set np (.rsl 5 1 0 c)).length = n := by rw [List.length_set, hsl]
          simp -dsimp(disch:=first|exact om|fail)only[go_sem,↓reduceIte,Nat.reduceEqDiff,Nat.reduceAdd,Nat.reduceSub,Nat.reduceMul,Nat.reduceLT,Nat.reduceLeDiff,reduceCtorEq,a_eq,a_neq,a_cast0,a_pred,a_app1,a_zero,Int.reduceToNat, hjp']
          refine ⟨⟨[(0, .ref 1 0), (1, I k), (5, .rsl 2 1 0 n), (6, I np), (7, I j)], [⟨.own, T_impl_reduced, [I 0, I 0, .emp, .emp, .lit (.pointer none)]⟩, ⟨.own, T_impl_reduced, [I n, I c, .rsl 2 1 0 n, .rsl 3 1 0 np, pQ .s det]⟩, ⟨.own, T_sl_p_impl_ratio, ((gC .u .s n c M).set j (.rsl 4 1 0 c)).set np (.rsl 5 1 0 c)⟩, ⟨.own, T_int, iC piv⟩, ⟨.own, T_p_impl_ratio, qs .s (rowQ c (M j))⟩, ⟨.own, T_p_impl_ratio, qs .s (rowQ c (M np))⟩]⟩,
            (StI.open 2 np (cs := (gC .u .s n c M).set j (.rsl 4 1 0 c)) rfl (by rw [List.getElem?_set_ne hne]; exact gC_at hp) T_p_impl_ratio).trans (StI.ren [some 0, some 1, some 2, some 3, some 4, some 5] [[], [], [], [], [], []] ⟨rfl, rfl, rfl, rfl, trivial⟩ (by decide) ?_ lW), ?_⟩
          · simp -dsimp(disch:=first|exact om|fail)only[go_sem,↓reduceIte,Nat.reduceEqDiff,Nat.reduceAdd,Nat.reduceSub,Nat.reduceMul,Nat.reduceLT,Nat.reduceLeDiff,reduceCtorEq,a_eq,a_neq,a_cast0,a_pred,a_app1,a_zero,Int.reduceToNat]
            refine rnL_self fun v hv => ?_
            rcases mem_set2 hv with rfl | rfl | h
            · exact .rsl _ _ _ _ _ _ _ rfl
            · exact .rsl _ _ _ _ _ _ _ rfl
            · exact rn_flat h
          have hLj : (((gC .u .s n c M).set j (.rsl 4 1 0 c)).set np (.rsl 5 1 0 c))[j]? = some (.rsl 4 1 0 c) := by
            rw [List.getElem?_set_ne (Ne.symm hne), List.getElem?_set_self (by omega)]
          have hLp : (((gC .u .s n c M).set j (.rsl 4 1 0 c)).set np (.rsl 5 1 0 c))[np]? = some (.rsl 5 1 0 c) := by
            rw [List.getElem?_set_self (by omega)]
          have hLo : ∀ i, i < n → i ≠ j → i ≠ np → (((gC .u .s n c M).set j (.rsl 4 1 0 c)).set np (.rsl 5 1 0 c))[i]? = some (.sl .u 1 c (qs .s (rowQ c (M i)))) := fun i hi h1 h2 => by
            rw [List.getElem?_set_ne (Ne.symm h2), List.getElem?_set_ne (Ne.symm h1)]; exact gC_at hi
          generalize ((gC .u .s n c M).set j (.rsl 4 1 0 c)).set np (.rsl 5 1 0 c) = L at *
          simp -dsimp(disch:=first|exact om|fail)only[go_sem,↓reduceIte,Nat.reduceEqDiff,Nat.reduceAdd,Nat.reduceSub,Nat.reduceMul,Nat.reduceLT,Nat.reduceLeDiff,reduceCtorEq,a_eq,a_neq,a_cast0,a_pred,a_app1,a_zero,Int.reduceToNat, hget5, hget4, hnu5, hnu4]
          rw [set_eq (L := L) (i := j) (v := .rsl 5 1 0 c) (OM.mk (by omega))]
          rw [set_eq (i := np) (v := .rsl 4 1 0 c) (OM.mk (by rw [List.length_set]; omega))]
          have hL'l : ((L.set j (.rsl 5 1 0 c)).set np (.rsl 4 1 0 c)).length = n := by rw [List.length_set, List.length_set, hL2]
          have hL'j : ((L.set j (.rsl 5 1 0 c)).set np (.rsl 4 1 0 c))[j]? = some (.rsl 5 1 0 c) := by
            rw [List.getElem?_set_ne (Ne.symm hne), List.getElem?_set_self (by omega)]
          have hL'p : ((L.set j (.rsl 5 1 0 c)).set np (.rsl 4 1 0 c))[np]? = some (.rsl 4 1 0 c) := by
            rw [List.getElem?_set_self (by rw [List.length_set]; omega)]
          have hL'o : ∀ i, i < n → i ≠ j → i ≠ np → ((L.set j (.rsl 5 1 0 c)).set np (.rsl 4 1 0 c))[i]? = some (.sl .u 1 c (qs .s (rowQ c (S i)))) := fun i hi h1 h2 => by
            rw [List.getElem?_set_ne (Ne.symm h2), List.getElem?_set_ne (Ne.symm h1), hLo i hi h1 h2, hS]
            unfold swapM
            rw [if_neg h1, if_neg h2]
          have hSj : S j = M np := by rw [hS]; unfold swapM; rw [if_pos rfl]
          have hSp : S np = M j := by rw [hS]; unfold swapM; rw [if_neg (Ne.symm hne), if_pos rfl]
          generalize (L.set j (.rsl 5 1 0 c)).set np (.rsl 4 1 0 c) = L' at *
          refine callP (neg_s det) lL ?_
          simp -dsimp(disch:=first|exact om|fail)only[go_sem,↓reduceIte,Nat.reduceEqDiff,Nat.reduceAdd,Nat.reduceSub,Nat.reduceMul,Nat.reduceLT,Nat.reduceLeDiff,reduceCtorEq,a_eq,a_neq,a_cast0,a_pred,a_app1,a_zero,Int.reduceToNat]
          refine ⟨_, ?_, main⟩
          refine StI.ren [some 0, some 1, some 2, some 3, some 4] [[], [], [5], [], []] ⟨rfl, rfl, rfl, rfl, trivial⟩ (by decide) ?_ lW
          rw [hdd, hSp, ← hSj]
          simp -dsimp(disch:=first|exact om|fail)only[go_sem,↓reduceIte,Nat.reduceEqDiff,Nat.reduceAdd,Nat.reduceSub,Nat.reduceMul,Nat.reduceLT,Nat.reduceLeDiff,reduceCtorEq,a_eq,a_neq,a_cast0,a_pred,a_app1,a_zero,Int.reduceToNat]
          exact rnL_close2 h hp hne hL'l rfl hL'j hL'p rfl hL'o
      · have hSl : ((gC .u .s n c S).set np (.rsl 4 1 0 c)).length = n := by rw [List.length_set, gC_length]
        have hgS : (((gC .u .s n c S).set np (.rsl 4 1 0 c)).drop np)[0]? = some (.rsl 4 1 0 c) := get_set (OM.mk (by rw [gC_length]; exact hp))
        have hnS := take1_nu hgS (by trivial)
        have hSg : ∀ a b, a < n → b < c → (S a b).good = true := by
          intro a b ha hb
          rw [hS]; unfold swapM
          split
          · exact hg np b hp hb
          · split
            · exact hg j b h hb
            · exact hg a b ha hb
        have hSk : S np k = M j k := by
          rw [hS]; unfold swapM
          by_cases e : np = j
          · rw [if_pos e, e]
          · rw [if_neg e, if_pos rfl]
        obtain ⟨R, hRR⟩ : ∃ R : Nat → FQ, R = divM S np k := ⟨_, rfl⟩
        have hRt : ∀ t, R t = (S np t).div (S np k) := fun t => by rw [hRR]; rfl
        simp -dsimp(disch:=first|exact om|fail)only[go_sem,↓reduceIte,Nat.reduceEqDiff,Nat.reduceAdd,Nat.reduceSub,Nat.reduceMul,Nat.reduceLT,Nat.reduceLeDiff,reduceCtorEq,a_eq,a_neq,a_cast0,a_pred,a_app1,a_zero,Int.reduceToNat, hgS, hnS]
        refine callP (mul_c .s .s fls fls d (S np k)) lL ?_
        obtain ⟨d', hd'⟩ : ∃ d', d' = d.mul (S np k) := ⟨_, rfl⟩
        rw [← hd'] at hR ⊢
        simp -dsimp(disch:=first|exact om|fail)only[go_sem,↓reduceIte,Nat.reduceEqDiff,Nat.reduceAdd,Nat.reduceSub,Nat.reduceMul,Nat.reduceLT,Nat.reduceLeDiff,reduceCtorEq,a_eq,a_neq,a_cast0,a_pred,a_app1,a_zero,Int.reduceToNat, hgS, hnS]
        refine loopJ (fun t : Nat => t ≤ c ∧ ∀ i, i < t → (R i).good = true) (fun t => ⟨[(0, .ref 1 0), (1, I k), (5, .rsl 2 1 0 n), (6, I np), (8, pQ .s (S np k)), (91, I c), (92, I t)], [⟨.own, T_impl_reduced, [I 0, I 0, .emp, .emp, .lit (.pointer none)]⟩, ⟨.own, T_impl_reduced, [I n, I c, .rsl 2 1 0 n, .rsl 3 1 0 np, pQ .s d']⟩, ⟨.own, T_sl_p_impl_ratio, (gC .u .s n c S).set np (.rsl 4 1 0 c)⟩, ⟨.own, T_int, iC piv⟩, ⟨.own, T_p_impl_ratio, qs .s (rowQ c (mixF (S np) R t))⟩]⟩) (fun t => c - t) 0 ⟨by omega, fun i h => by omega⟩ ?_ ?_
        · refine StI.ren [some 0, some 1, some 2, some 3, some 4] [[], [], [], [], []] ⟨rfl, rfl, rfl, rfl, trivial⟩ (by decide) ?_ lW
          rw [mixF_zero]
          simp -dsimp(disch:=first|exact om|fail)only[go_sem,↓reduceIte,Nat.reduceEqDiff,Nat.reduceAdd,Nat.reduceSub,Nat.reduceMul,Nat.reduceLT,Nat.reduceLeDiff,reduceCtorEq,a_eq,a_neq,a_cast0,a_pred,a_app1,a_zero,Int.reduceToNat]
          exact rnL_keep hp rfl
        rintro t ⟨ht, hRg⟩
        by_cases h3 : t < c
        · have hml : (rowQ c (mixF (S np) R t)).length = c := rowQ_length
          have hRt := hRt t
          have hms := mixF_set (g := S np) (h := R) h3 hRt.symm
          simp -dsimp(disch:=first|exact om|fail)only[go_sem,↓reduceIte,Nat.reduceEqDiff,Nat.reduceAdd,Nat.reduceSub,Nat.reduceMul,Nat.reduceLT,Nat.reduceLeDiff,reduceCtorEq,a_eq,a_neq,a_cast0,a_pred,a_app1,a_zero,Int.reduceToNat, hgS, hnS]
          rw [mixF_at]
          refine callP (div_c .s .s fls fls (S np t) (S np k)) lL ?_
          cases hgt : ((S np t).div (S np k)).good
          · simp -dsimp(disch:=first|exact om|fail)only[go_sem,↓reduceIte,Nat.reduceEqDiff,Nat.reduceAdd,Nat.reduceSub,Nat.reduceMul,Nat.reduceLT,Nat.reduceLeDiff,reduceCtorEq,a_eq,a_neq,a_cast0,a_pred,a_app1,a_zero,Int.reduceToNat, hgS, hnS, hgt]
            refine ⟨_, stI_fail hSl hnp.symm, ?_⟩
            have hfa : allG (gridL n c (clrM S np k)) = false := gridL_bad hp h3 (by unfold clrM; rw [if_pos rfl]; exact hgt)
            rw [hfa, if_neg (by decide)] at hR
            rw [hR]
            simp -dsimp(disch:=first|exact om|fail)only[go_sem,↓reduceIte,Nat.reduceEqDiff,Nat.reduceAdd,Nat.reduceSub,Nat.reduceMul,Nat.reduceLT,Nat.reduceLeDiff,reduceCtorEq,a_eq,a_neq,a_cast0,a_pred,a_app1,a_zero,Int.reduceToNat]
            rfl
          · simp -dsimp(disch:=first|exact om|fail)only[go_sem,↓reduceIte,Nat.reduceEqDiff,Nat.reduceAdd,Nat.reduceSub,Nat.reduceMul,Nat.reduceLT,Nat.reduceLeDiff,reduceCtorEq,a_eq,a_neq,a_cast0,a_pred,a_app1,a_zero,Int.reduceToNat, hgS, hnS, hgt]
            refine ⟨t + 1, ⟨by omega, fun i hi => ?_⟩, by omega, ?_⟩
            · rcases Nat.lt_or_eq_of_le (Nat.le_of_lt_succ hi) with h4 | rfl
              · exact hRg i h4
              · rw [hRt]; exact hgt
            · rw [hms]
              refine StI.ren [some 0, some 1, some 2, some 3, some 4] [[], [], [], [], []] ⟨rfl, rfl, rfl, rfl, trivial⟩ (by decide) ?_ lW
              simp -dsimp(disch:=first|exact om|fail)only[go_sem,↓reduceIte,Nat.reduceEqDiff,Nat.reduceAdd,Nat.reduceSub,Nat.reduceMul,Nat.reduceLT,Nat.reduceLeDiff,reduceCtorEq,a_eq,a_neq,a_cast0,a_pred,a_app1,a_zero,Int.reduceToNat]
              exact rnL_keep hp rfl
        · obtain rfl : t = c := by omega
          rw [mixF_full]
          simp -dsimp(disch:=first|exact om|fail)only[go_sem,↓reduceIte,Nat.reduceEqDiff,Nat.reduceAdd,Nat.reduceSub,Nat.reduceMul,Nat.reduceLT,Nat.reduceLeDiff,reduceCtorEq,a_eq,a_neq,a_cast0,a_pred,a_app1,a_zero,Int.reduceToNat, hgS, hnS]
          obtain ⟨T, hT⟩ : ∃ T, T = clrM S np k := ⟨_, rfl⟩
          rw [← hT] at hR
          have hTp : T np = R := by rw [hT, hRR]; funext b; unfold clrM; rw [if_pos rfl]
          have hTz : ∀ a, a ≠ np → (S a k).num = 0 → T a = S a := fun a h1 h2 => by rw [hT]; funext b; unfold clrM; rw [if_neg h1, if_pos h2]
          have hTs : ∀ a b, a ≠ np → ¬ (S a k).num = 0 → T a b = (S a b).sub ((S a k).mul (R b)) := fun a b h1 h2 => by rw [hT, hRR]; unfold clrM; rw [if_neg h1, if_neg h2]
          obtain ⟨W, hW⟩ : ∃ W : Nat → Nat → Nat → FQ, W = fun i a => if a < i then T a else S a := ⟨_, rfl⟩
          have hW0 : W 0 = S := by rw [hW]; funext a; simp
          have hWi : ∀ i, W i i = S i := fun i => by rw [hW]; simp
          have hWs : ∀ i, W (i + 1) i = T i := fun i => by rw [hW]; simp
          have hWo : ∀ i a, a ≠ i → W (i + 1) a = W i a := fun i a h => by
            rw [hW]
            by_cases e : a < i
            · simp only [if_pos e, if_pos (show a < i + 1 by omega)]
            · simp only [if_neg e, if_neg (show ¬ a < i + 1 by omega)]
          have hWn : ∀ a, a < n → W n a = T a := fun a h => by rw [hW]; simp [h]
          clear hT hRR hS hW
          refine loopJ (fun i : Nat => i ≤ n ∧ ∀ a b, a < i → b < t → (T a b).good = true) (fun i => ⟨[(0, .ref 1 0), (1, I k), (5, .rsl 2 1 0 n), (6, I np), (119, .rsl 2 1 0 n), (120, I n), (121, I i)], [⟨.own, T_impl_reduced, [I 0, I 0, .emp, .emp, .lit (.pointer none)]⟩, ⟨.own, T_impl_reduced, [I n, I t, .rsl 2 1 0 n, .rsl 3 1 0 np, pQ .s d']⟩, ⟨.own, T_sl_p_impl_ratio, (gC .u .s n t (W i)).set np (.rsl 4 1 0 t)⟩, ⟨.own, T_int, iC piv⟩, ⟨.own, T_p_impl_ratio, qs .s (rowQ t R)⟩]⟩) (fun i => n - i) 0 ⟨by omega, fun a b h => by omega⟩ ?_ ?_
          · refine StI.ren [some 0, some 1, some 2, some 3, some 4] [[], [], [], [], []] ⟨rfl, rfl, rfl, rfl, trivial⟩ (by decide) ?_ lW
            rw [hW0]
            simp -dsimp(disch:=first|exact om|fail)only[go_sem,↓reduceIte,Nat.reduceEqDiff,Nat.reduceAdd,Nat.reduceSub,Nat.reduceMul,Nat.reduceLT,Nat.reduceLeDiff,reduceCtorEq,a_eq,a_neq,a_cast0,a_pred,a_app1,a_zero,Int.reduceToNat]
            exact rnL_keep hp rfl
          rintro i ⟨hi, hTg⟩
          have hWl : ((gC .u .s n t (W i)).set np (.rsl 4 1 0 t)).length = n := by rw [List.length_set, gC_length]
          have hgW : (((gC .u .s n t (W i)).set np (.rsl 4 1 0 t)).drop np)[0]? = some (.rsl 4 1 0 t) := get_set (OM.mk (by rw [gC_length]; exact hp))
          have hnW := take1_nu hgW (by trivial)
          by_cases h4 : i < n
          · simp -dsimp(disch:=first|exact om|fail)only[go_sem,↓reduceIte,Nat.reduceEqDiff,Nat.reduceAdd,Nat.reduceSub,Nat.reduceMul,Nat.reduceLT,Nat.reduceLeDiff,reduceCtorEq,a_eq,a_neq,a_cast0,a_pred,a_app1,a_zero,Int.reduceToNat]
            by_cases hip : i = np
            · have hip' : (i : Int) = (np : Int) := by omega
              have hgI : (((gC .u .s n t (W i)).set np (.rsl 4 1 0 t)).drop i)[0]? = some (.rsl 4 1 0 t) := by rw [hip]; rw [hip] at hgW; exact hgW
              have hnI := take1_nu hgI (by trivial)
              refine ⟨_, StI.refl _ _, ?_⟩
              simp -dsimp(disch:=first|exact om|fail)only[go_sem,↓reduceIte,Nat.reduceEqDiff,Nat.reduceAdd,Nat.reduceSub,Nat.reduceMul,Nat.reduceLT,Nat.reduceLeDiff,reduceCtorEq,a_eq,a_neq,a_cast0,a_pred,a_app1,a_zero,Int.reduceToNat, hgI, hnI]
              refine ⟨i + 1, ⟨by omega, fun a b ha hb => ?_⟩, by omega, ?_⟩
              · rcases Nat.lt_or_eq_of_le (Nat.le_of_lt_succ ha) with h5 | rfl
                · exact hTg a b h5 hb
                · rw [hip, hTp]; exact hRg b hb
              · refine StI.ren [some 0, some 1, some 2, some 3, some 4] [[], [], [], [], []] ⟨rfl, rfl, rfl, rfl, trivial⟩ (by decide) ?_ lW
                simp -dsimp(disch:=first|exact om|fail)only[go_sem,↓reduceIte,Nat.reduceEqDiff,Nat.reduceAdd,Nat.reduceSub,Nat.reduceMul,Nat.reduceLT,Nat.reduceLeDiff,reduceCtorEq,a_eq,a_neq,a_cast0,a_pred,a_app1,a_zero,Int.reduceToNat]
                exact rnL_keep' hp rfl (fun a _ h6 => hWo i a (by omega))
            · have hip' : ¬ (i : Int) = (np : Int) := by omega
              have hne : np ≠ i := Ne.symm hip
              have hoi : ((gC .u .s n t (W i)).set np (.rsl 4 1 0 t))[i]? = some (.sl .u 1 t (qs .s (rowQ t (S i)))) := by
                rw [List.getElem?_set_ne hne, gC_at h4, hWi]
              have hL5i : (((gC .u .s n t (W i)).set np (.rsl 4 1 0 t)).set i (.rsl 5 1 0 t))[i]? = some (.rsl 5 1 0 t) := List.getElem?_set_self (by omega)
              have hL5p : (((gC .u .s n t (W i)).set np (.rsl 4 1 0 t)).set i (.rsl 5 1 0 t))[np]? = some (.rsl 4 1 0 t) := by
                rw [List.getElem?_set_ne hip, List.getElem?_set_self (by rw [gC_length]; exact hp)]
              have hL5o : ∀ a, a < n → a ≠ i → a ≠ np → (((gC .u .s n t (W i)).set np (.rsl 4 1 0 t)).set i (.rsl 5 1 0 t))[a]? = some (.sl .u 1 t (qs .s (rowQ t (W (i + 1) a)))) := fun a ha h1 h2 => by
                rw [List.getElem?_set_ne (Ne.symm h1), List.getElem?_set_ne (Ne.symm h2), gC_at ha, hWo i a h1]
              have hL5l : (((gC .u .s n t (W i)).set np (.rsl 4 1 0 t)).set i (.rsl 5 1 0 t)).length = n := by rw [List.length_set, hWl]
              have hL5r : ∀ js : List (Option Nat), js[4]? = some (some 4) → js[5]? = some (some 5) → ∀ H, RnL H js true (((gC .u .s n t (W i)).set np (.rsl 4 1 0 t)).set i (.rsl 5 1 0 t)) (((gC .u .s n t (W i)).set np (.rsl 4 1 0 t)).set i (.rsl 5 1 0 t)) [] := fun js h1 h2 H => by
                refine rnL_self fun v hv => ?_
                rcases mem_set2 hv with rfl | rfl | h
                · exact .rsl _ _ _ _ _ _ _ h2
                · exact .rsl _ _ _ _ _ _ _ h1
                · exact rn_flat h
              have hopen := fun tm => StI.open (n0 := 4) (tm := tm) (H := [resO, ⟨.own, T_impl_reduced, [I n, I t, .rsl 2 1 0 n, .rsl 3 1 0 np, pQ .s d']⟩, ⟨.own, T_sl_p_impl_ratio, (gC .u .s n t (W i)).set np (.rsl 4 1 0 t)⟩, ⟨.own, T_int, iC piv⟩, ⟨.own, T_p_impl_ratio, qs .s (rowQ t R)⟩]) 2 i rfl hoi T_p_impl_ratio
              have hgI : ((((gC .u .s n t (W i)).set np (.rsl 4 1 0 t)).set i (.rsl 5 1 0 t)).drop i)[0]? = some (.rsl 5 1 0 t) := by rw [List.getElem?_drop, Nat.add_zero]; exact hL5i
              have hgP : ((((gC .u .s n t (W i)).set np (.rsl 4 1 0 t)).set i (.rsl 5 1 0 t)).drop np)[0]? = some (.rsl 4 1 0 t) := by rw [List.getElem?_drop, Nat.add_zero]; exact hL5p
              have hnI := take1_nu hgI (by trivial)
              have hnP := take1_nu hgP (by trivial)
              refine ⟨_, hopen _, ?_⟩
              show regE _ _ _ _ _ ⟨_, [resO, ⟨.own, T_impl_reduced, [I n, I t, .rsl 2 1 0 n, .rsl 3 1 0 np, pQ .s d']⟩, ⟨.own, T_sl_p_impl_ratio, ((gC .u .s n t (W i)).set np (.rsl 4 1 0 t)).set i (.rsl 5 1 0 t)⟩, ⟨.own, T_int, iC piv⟩, ⟨.own, T_p_impl_ratio, qs .s (rowQ t R)⟩, ⟨.own, T_p_impl_ratio, qs .s (rowQ t (S i))⟩]⟩
              generalize ((gC .u .s n t (W i)).set np (.rsl 4 1 0 t)).set i (.rsl 5 1 0 t) = L at *
              simp -dsimp(disch:=first|exact om|fail)only[go_sem,↓reduceIte,Nat.reduceEqDiff,Nat.reduceAdd,Nat.reduceSub,Nat.reduceMul,Nat.reduceLT,Nat.reduceLeDiff,reduceCtorEq,a_eq,a_neq,a_cast0,a_pred,a_app1,a_zero,Int.reduceToNat, hgI, hnI]
              refine callP (signR_c .s fls (S i k) (hSg i k h4 hk)) lL ?_
              by_cases hz1 : (S i k).num = 0
              · rw [hz1, show sgZ 0 = 0 from rfl]
                simp -dsimp(disch:=first|exact om|fail)only[go_sem,↓reduceIte,Nat.reduceEqDiff,Nat.reduceAdd,Nat.reduceSub,Nat.reduceMul,Nat.reduceLT,Nat.reduceLeDiff,reduceCtorEq,a_eq,a_neq,a_cast0,a_pred,a_app1,a_zero,Int.reduceToNat]
                have e1 : W (i + 1) i = S i := by rw [hWs, hTz i hip hz1]
                refine ⟨i + 1, ⟨by omega, fun a b ha hb => ?_⟩, by omega, ?_⟩
                · rcases Nat.lt_or_eq_of_le (Nat.le_of_lt_succ ha) with h5 | rfl
                  · exact hTg a b h5 hb
                  · rw [hTz a hip hz1]; exact hSg a b h4 hb
                · refine StI.ren [some 0, some 1, some 2, some 3, some 4] [[], [], [5], [], []] ⟨rfl, rfl, rfl, rfl, trivial⟩ (by decide) ?_ lW
                  simp -dsimp(disch:=first|exact om|fail)only[go_sem,↓reduceIte,Nat.reduceEqDiff,Nat.reduceAdd,Nat.reduceSub,Nat.reduceMul,Nat.reduceLT,Nat.reduceLeDiff,reduceCtorEq,a_eq,a_neq,a_cast0,a_pred,a_app1,a_zero,Int.reduceToNat]
                  exact rnL_close2 h4 hp hip hL5l (by rw [e1]; rfl) hL5i hL5p rfl hL5o
              · have hsg1 : ¬ sgZ (S i k).num = 0 := by unfold sgZ; rw [if_neg hz1]; split <;> decide
                have hTs := fun b => hTs i b hip hz1
                simp -dsimp(disch:=first|exact om|fail)only[go_sem,↓reduceIte,Nat.reduceEqDiff,Nat.reduceAdd,Nat.reduceSub,Nat.reduceMul,Nat.reduceLT,Nat.reduceLeDiff,reduceCtorEq,a_eq,a_neq,a_cast0,a_pred,a_app1,a_zero,Int.reduceToNat, hsg1]
                refine loopJ (fun u : Nat => u ≤ t ∧ ∀ b, b < u → (T i b).good = true) (fun u => ⟨[(0, .ref 1 0), (1, I k), (5, .rsl 2 1 0 n), (6, I np), (10, I i), (11, .rsl 5 1 0 t), (12, pQ .s (S i k)), (119, .rsl 2 1 0 n), (120, I n), (121, I i), (139, I t), (140, I u)], [⟨.own, T_impl_reduced, [I 0, I 0, .emp, .emp, .lit (.pointer none)]⟩, ⟨.own, T_impl_reduced, [I n, I t, .rsl 2 1 0 n, .rsl 3 1 0 np, pQ .s d']⟩, ⟨.own, T_sl_p_impl_ratio, L⟩, ⟨.own, T_int, iC piv⟩, ⟨.own, T_p_impl_ratio, qs .s (rowQ t R)⟩, ⟨.own, T_p_impl_ratio, qs .s (rowQ t (mixF (S i) (T i) u))⟩]⟩) (fun u => t - u) 0 ⟨by omega, fun b h => by omega⟩ ?_ ?_
                · refine StI.ren [some 0, some 1, some 2, some 3, some 4, some 5] [[], [], [], [], [], []] ⟨rfl, rfl, rfl, rfl, trivial⟩ (by decide) ?_ lW
                  rw [mixF_zero]
                  simp -dsimp(disch:=first|exact om|fail)only[go_sem,↓reduceIte,Nat.reduceEqDiff,Nat.reduceAdd,Nat.reduceSub,Nat.reduceMul,Nat.reduceLT,Nat.reduceLeDiff,reduceCtorEq,a_eq,a_neq,a_cast0,a_pred,a_app1,a_zero,Int.reduceToNat]
                  exact hL5r _ rfl rfl _
                rintro u ⟨hu, hTgu⟩
                by_cases h6 : u < t
                · have hml : (rowQ t (mixF (S i) (T i) u)).length = t := rowQ_length
                  have hTu := hTs u
                  have hms := mixF_set (g := S i) (h := T i) h6 hTu.symm
                  simp -dsimp(disch:=first|exact om|fail)only[go_sem,↓reduceIte,Nat.reduceEqDiff,Nat.reduceAdd,Nat.reduceSub,Nat.reduceMul,Nat.reduceLT,Nat.reduceLeDiff,reduceCtorEq,a_eq,a_neq,a_cast0,a_pred,a_app1,a_zero,Int.reduceToNat, hgP, hnP]
                  rw [mixF_at]
                  refine callP (mul_c .s .s fls fls (S i k) (R u)) lL ?_
                  simp -dsimp(disch:=first|exact om|fail)only[go_sem,↓reduceIte,Nat.reduceEqDiff,Nat.reduceAdd,Nat.reduceSub,Nat.reduceMul,Nat.reduceLT,Nat.reduceLeDiff,reduceCtorEq,a_eq,a_neq,a_cast0,a_pred,a_app1,a_zero,Int.reduceToNat]
                  refine callP (sub_c .s .s fls fls (S i u) ((S i k).mul (R u))) lL ?_
                  cases hgt : ((S i u).sub ((S i k).mul (R u))).good
                  · simp -dsimp(disch:=first|exact om|fail)only[go_sem,↓reduceIte,Nat.reduceEqDiff,Nat.reduceAdd,Nat.reduceSub,Nat.reduceMul,Nat.reduceLT,Nat.reduceLeDiff,reduceCtorEq,a_eq,a_neq,a_cast0,a_pred,a_app1,a_zero,Int.reduceToNat, hgt]
                    refine ⟨_, stI_fail hL5l hnp.symm, ?_⟩
                    have hfa : allG (gridL n t T) = false := gridL_bad h4 h6 (by rw [hTu]; exact hgt)
                    rw [hfa, if_neg (by decide)] at hR
                    rw [hR]
                    simp -dsimp(disch:=first|exact om|fail)only[go_sem,↓reduceIte,Nat.reduceEqDiff,Nat.reduceAdd,Nat.reduceSub,Nat.reduceMul,Nat.reduceLT,Nat.reduceLeDiff,reduceCtorEq,a_eq,a_neq,a_cast0,a_pred,a_app1,a_zero,Int.reduceToNat]
                    rfl
                  · simp -dsimp(disch:=first|exact om|fail)only[go_sem,↓reduceIte,Nat.reduceEqDiff,Nat.reduceAdd,Nat.reduceSub,Nat.reduceMul,Nat.reduceLT,Nat.reduceLeDiff,reduceCtorEq,a_eq,a_neq,a_cast0,a_pred,a_app1,a_zero,Int.reduceToNat, hgt]
                    refine ⟨u + 1, ⟨by omega, fun b hb => ?_⟩, by omega, ?_⟩
                    · rcases Nat.lt_or_eq_of_le (Nat.le_of_lt_succ hb) with h7 | rfl
                      · exact hTgu b h7
                      · rw [hTu]; exact hgt
                    · rw [hms]
                      refine StI.ren [some 0, some 1, some 2, some 3, some 4, some 5] [[], [], [], [], [], []] ⟨rfl, rfl, rfl, rfl, trivial⟩ (by decide) ?_ lW
                      simp -dsimp(disch:=first|exact om|fail)only[go_sem,↓reduceIte,Nat.reduceEqDiff,Nat.reduceAdd,Nat.reduceSub,Nat.reduceMul,Nat.reduceLT,Nat.reduceLeDiff,reduceCtorEq,a_eq,a_neq,a_cast0,a_pred,a_app1,a_zero,Int.reduceToNat]
                      exact hL5r _ rfl rfl _
                · obtain rfl : u = t := by omega
                  rw [mixF_full]
                  have e1 : W (i + 1) i = T i := hWs i
                  simp -dsimp(disch:=first|exact om|fail)only[go_sem,↓reduceIte,Nat.reduceEqDiff,Nat.reduceAdd,Nat.reduceSub,Nat.reduceMul,Nat.reduceLT,Nat.reduceLeDiff,reduceCtorEq,a_eq,a_neq,a_cast0,a_pred,a_app1,a_zero,Int.reduceToNat]
                  refine ⟨i + 1, ⟨by omega, fun a b ha hb => ?_⟩, by omega, ?_⟩
                  · rcases Nat.lt_or_eq_of_le (Nat.le_of_lt_succ ha) with h5 | rfl
                    · exact hTg a b h5 hb
                    · exact hTgu b hb
                  · refine StI.ren [some 0, some 1, some 2, some 3, some 4] [[], [], [5], [], []] ⟨rfl, rfl, rfl, rfl, trivial⟩ (by decide) ?_ lW
                    simp -dsimp(disch:=first|exact om|fail)only[go_sem,↓reduceIte,Nat.reduceEqDiff,Nat.reduceAdd,Nat.reduceSub,Nat.reduceMul,Nat.reduceLT,Nat.reduceLeDiff,reduceCtorEq,a_eq,a_neq,a_cast0,a_pred,a_app1,a_zero,Int.reduceToNat]
                    exact rnL_close2 h4 hp hip hL5l (by rw [e1]; rfl) hL5i hL5p rfl hL5o
          · obtain rfl : i = n := by omega
            simp -dsimp(disch:=first|exact om|fail)only[go_sem,↓reduceIte,Nat.reduceEqDiff,Nat.reduceAdd,Nat.reduceSub,Nat.reduceMul,Nat.reduceLT,Nat.reduceLeDiff,reduceCtorEq,a_eq,a_neq,a_cast0,a_pred,a_app1,a_zero,Int.reduceToNat]
            refine ⟨⟨[(0, .ref 1 0), (1, I k)], [⟨.own, T_impl_reduced, [I 0, I 0, .emp, .emp, .lit (.pointer none)]⟩, ⟨.own, T_impl_reduced, [I i, I t, .rsl 2 1 0 i, .rsl 3 1 0 np, pQ .s d']⟩, ⟨.own, T_sl_p_impl_ratio, gC .u .s i t T⟩, ⟨.own, T_int, iC piv⟩]⟩, StI.ren [some 0, some 1, some 2, some 3] [[], [], [4], []] ⟨rfl, rfl, rfl, rfl, trivial⟩ (by decide) ?_ lW, ?_⟩
            · simp -dsimp(disch:=first|exact om|fail)only[go_sem,↓reduceIte,Nat.reduceEqDiff,Nat.reduceAdd,Nat.reduceSub,Nat.reduceMul,Nat.reduceLT,Nat.reduceLeDiff,reduceCtorEq,a_eq,a_neq,a_cast0,a_pred,a_app1,a_zero,Int.reduceToNat]
              refine rnL_close hp (by rw [hTp]; rfl) (fun a ha _ => (hWn a ha).symm)
            simp -dsimp(disch:=first|exact om|fail)only[go_sem,↓reduceIte,Nat.reduceEqDiff,Nat.reduceAdd,Nat.reduceSub,Nat.reduceMul,Nat.reduceLT,Nat.reduceLeDiff,reduceCtorEq,a_eq,a_neq,a_cast0,a_pred,a_app1,a_zero,Int.reduceToNat]
            have hall : allG (gridL i t T) = true := gridL_all fun a b ha hb => hTg a b ha hb
            have hfi : ¬ firstR M k np i = i := by rw [hf]; omega
            rw [hall, if_pos rfl] at hR
            rw [hR]
            refine ⟨hnp.symm, ?_, rfl⟩
            show _ = ite _ _ _
            rw [if_neg hfi]
  · obtain rfl : j = n := by omega
    have hf : firstR M k np j = j := firstR_eq ⟨by omega, Nat.le_refl _, hz, fun h => absurd h (by omega)⟩
    rw [if_pos hf] at hR
    rw [hR]
    simp -dsimp(disch:=first|exact om|fail)only[go_sem,↓reduceIte,Nat.reduceEqDiff,Nat.reduceAdd,Nat.reduceSub,Nat.reduceMul,Nat.reduceLT,Nat.reduceLeDiff,reduceCtorEq,a_eq,a_neq,a_cast0,a_pred,a_app1,a_zero,Int.reduceToNat]
    refine ⟨_, StI.refl _ _, ?_⟩
    simp -dsimp(disch:=first|exact om|fail)only[go_sem,↓reduceIte,Nat.reduceEqDiff,Nat.reduceAdd,Nat.reduceSub,Nat.reduceMul,Nat.reduceLT,Nat.reduceLeDiff,reduceCtorEq,a_eq,a_neq,a_cast0,a_pred,a_app1,a_zero,Int.reduceToNat]
    rw [if_pos hf, hnp]
end Go.Proofs.Ytgkimfncegbeaaa
