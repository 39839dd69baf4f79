/- part of the proof -/
import Derived.Test.YtikmepdhpffdoaaGreatTXl
namespace Go.Proofs.YtikmepdhpffdoaaGreat
open Go Go.RowKit
set_option maxRecDepth 100000
set_option maxHeartbeats 4000000
set_option linter.unusedVariables false
set_option linter.unusedSimpArgs false
structure RS where
  M : Nat → Nat → FQ
  piv : List Int
  det : FQ
@[go_sem] theorem get_set {α : Type} {L : List α} {i : Nat} {v : α} (h : OM (i < L.length)) : ((L.set i v).drop i)[0]? = some v := by
  have h : i < L.length := h
  simp [h]
theorem gC_at {f φ : Fl} {n c : Nat} {M : Nat → Nat → FQ} {i : Nat} (h : i < n) : (gC f φ n c M)[i]? = some (.sl f 1 c (qs φ (rowQ c (M i)))) := by
  simp [gC, h]
theorem rnL_at {H : List Ob} {js : List (Option Nat)} {bk : Bool} : ∀ {L L' : List V} {i : Nat} {ks : List Nat}, L.length = L'.length → i < L.length → (∀ (v v' : V), L[i]? = some v → L'[i]? = some v' → Rn H js bk v v' ks) → (∀ (j : Nat) (v v' : V), j ≠ i → L[j]? = some v → L'[j]? = some v' → Rn H js bk v v' []) → RnL H js bk L L' ks
  | [], [], i, ks, _, hi, _, _ => by simp at hi
  | v :: L, v' :: L', 0, ks, hl, hi, h1, h2 => by
    have q : RnL H js bk L L' [] := by
      have go : ∀ {L L' : List V}, L.length = L'.length → (∀ (j : Nat) (v v' : V), L[j]? = some v → L'[j]? = some v' → Rn H js bk v v' []) → RnL H js bk L L' [] := by
        intro L
        induction L with
        | nil => intro L' hl _; cases L' with
          | nil => exact .nil _ _
          | cons _ _ => simp at hl
        | cons a L ih => intro L' hl h; cases L' with
          | nil => simp at hl
          | cons a' L' => exact .cons _ _ _ _ _ _ [] [] (h 0 a a' rfl rfl) (ih (by simpa using hl) (fun j v v' e1 e2 => h (j + 1) v v' (by simpa using e1) (by simpa using e2)))
      exact go (by simpa using hl) (fun j w w' e1 e2 => h2 (j + 1) w w' (by omega) (by simpa using e1) (by simpa using e2))
    have := RnL.cons js bk v v' L L' ks [] (h1 v v' rfl rfl) q
    rwa [List.append_nil] at this
  | v :: L, v' :: L', i + 1, ks, hl, hi, h1, h2 => by
    have q : RnL H js bk L L' ks := rnL_at (i := i) (by simpa using hl) (by simpa using hi) (fun w w' e1 e2 => h1 w w' (by simpa using e1) (by simpa using e2)) (fun j w w' hj e1 e2 => h2 (j + 1) w w' (by omega) (by simpa using e1) (by simpa using e2))
    have := RnL.cons js bk v v' L L' [] ks (h2 0 v v' (by omega) rfl rfl) q
    simpa using this
theorem rn_flat {H : List Ob} {js : List (Option Nat)} {v : V} (h : v.flat) : Rn H js true v v [] := .same _ _ _ h (fun h => by cases h)
theorem rnL_close {H : List Ob} {js : List (Option Nat)} {n c i id : Nat} {ty : TypeId} {M M' : Nat → Nat → FQ} (hi : i < n) (h : H[id]? = some ⟨.own, ty, qs .s (rowQ c (M' i))⟩) (ho : ∀ j, j < n → j ≠ i → M' j = M j) :
    RnL H js true ((gC .u .s n c M).set i (.rsl id 1 0 c)) (gC .u .s n c M') [id] := by
  refine rnL_at (i := i) (by simp [gC]) (by simp [gC, hi]) ?_ ?_
  · intro v v' e1 e2
    rw [gC_at hi] at e2
    rw [List.getElem?_set_self (by simp [gC, hi])] at e1
    cases e1; cases e2
    exact rn_row h rowQ_length
  · intro j v v' hj e1 e2
    have hjn : j < n := by have := (List.getElem?_eq_some_iff.1 e2).1; simpa [gC] using this
    rw [gC_at hjn] at e2
    rw [List.getElem?_set_ne (by omega), gC_at hjn] at e1
    cases e1; cases e2
    rw [ho j hjn hj]
    exact rn_flat trivial
theorem take1_nu {L : List V} {j : Nat} {v : V} (h : (L.drop j)[0]? = some v) (hv : v.nu) : (∀ c ∈ (L.drop j).take 1, c.nu) = True := by
  refine eq_true fun c hc => ?_
  cases e : L.drop j with
  | nil => rw [e] at h; simp at h
  | cons a r =>
    rw [e] at h hc
    simp only [List.getElem?_cons_zero, Option.some.injEq] at h
    simp only [List.take_succ_cons, List.take_zero, List.mem_cons, List.not_mem_nil, or_false] at hc
    subst hc; subst h; exact hv
theorem rowQ_upd {c t : Nat} {g : Nat → FQ} {x : FQ} (h : t < c) : (rowQ c g).set t x = rowQ c (fun j => if j = t then x else g j) := by
  refine List.ext_getElem (by simp [rowQ]) fun p h1 h2 => ?_
  rw [List.getElem_set]
  simp only [rowQ, List.getElem_map, List.getElem_range]
  by_cases e : t = p
  · rw [if_pos e, if_pos e.symm]
  · rw [if_neg e, if_neg (Ne.symm e)]
theorem rnL_self {H : List Ob} {js : List (Option Nat)} : ∀ {L : List V}, (∀ v ∈ L, Rn H js true v v []) → RnL H js true L L []
  | [], _ => .nil _ _
  | v :: L, h => .cons _ _ _ _ _ _ [] [] (h v (by simp)) (rnL_self fun w hw => h w (by simp [hw]))
end Go.Proofs.YtikmepdhpffdoaaGreat
