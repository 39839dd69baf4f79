/- part of the proof -/
import Derived.Test.YtikmepdhpffdoaaGreatTXo
import Derived.Test.YtikmepdhpffdoaaGreatTXv
namespace Go.Proofs.YtikmepdhpffdoaaGreat
open Go Go.RowKit
set_option maxRecDepth 100000
set_option maxHeartbeats 4000000
set_option linter.unusedVariables false
set_option linter.unusedSimpArgs false
theorem step_left {n c d k : Nat} {a b : RS} (hk : k < c) (hp : a.piv = b.piv) (hpl : a.piv.length < n) (hM : ∀ i j, i < n → j < c → a.M i j = b.M i j) {a' : RS} (h : redStep n (c + d) a k = some a') :
    ∃ b', redStep n c b k = some b' ∧ a'.piv = b'.piv ∧ ∀ i j, i < n → j < c → a'.M i j = b'.M i j := by
  obtain ⟨A, p, D⟩ := a
  obtain ⟨B, p', D'⟩ := b
  simp only at hp hM hpl
  subst hp
  have hf := firstR_spec (M := A) (k := k) (used := p.length) (n := n) (by omega)
  have hf' : firstR B k p.length n = firstR A k p.length n := by
    refine firstR_eq ⟨hf.1, hf.2.1, fun i q1 q2 => ?_, fun q => ?_⟩
    · rw [← hM i k (by have := hf.2.1; omega) hk]; exact hf.2.2.1 i q1 q2
    · rw [← hM _ k q hk]; exact hf.2.2.2 q
  unfold redStep at h ⊢
  simp only [hf'] at h ⊢
  generalize hj : firstR A k p.length n = j at *
  obtain ⟨f1, f2, f3, f4⟩ := hf
  by_cases hjn : j = n
  · rw [if_pos hjn] at h ⊢
    cases h
    exact ⟨_, rfl, rfl, hM⟩
  · rw [if_neg hjn] at h ⊢
    have hjl : j < n := by omega
    have hS : ∀ i b, i < n → b < c → swapM A j p.length i b = swapM B j p.length i b := by
      intro i b hi hb
      unfold swapM
      split
      · exact hM _ b hpl hb
      · split
        · exact hM j b hjl hb
        · exact hM i b hi hb
    generalize swapM A j p.length = S at *
    generalize swapM B j p.length = S' at *
    have hT : ∀ i b, i < n → b < c → clrM S p.length k i b = clrM S' p.length k i b := by
      intro i b hi hb
      unfold clrM divM
      rw [hS p.length b hpl hb, hS p.length k hpl hk, hS i k hi hk, hS i b hi hb]
    split at h
    · rename_i hg
      cases h
      have hg' : allG (gridL n c (clrM S' p.length k)) = true := gridL_all fun i j hi hj => by
        rw [← hT i j hi hj]
        rw [allG_mem] at hg
        exact hg _ (List.mem_flatMap.2 ⟨i, List.mem_range.2 hi, List.mem_map.2 ⟨j, List.mem_range.2 (by omega), rfl⟩⟩)
      rw [if_pos hg']
      exact ⟨_, rfl, rfl, hT⟩
    · cases h
theorem red_left {n c d : Nat} {A M : Nat → Nat → FQ} (hA : ∀ i j, i < n → j < c → A i j = M i j) : ∀ {k : Nat}, k ≤ c → ∀ {a : RS}, redTo n (c + d) A k = some a →
    ∃ b, redTo n c M k = some b ∧ a.piv = b.piv ∧ ∀ i j, i < n → j < c → a.M i j = b.M i j
  | 0, _, a, h => by cases h; exact ⟨_, rfl, rfl, hA⟩
  | k + 1, hk, a, h => by
    unfold redTo at h
    cases e : redTo n (c + d) A k with
    | none => rw [e] at h; cases h
    | some s =>
      rw [e] at h
      simp only at h
      obtain ⟨b, h1, h2, h3⟩ := red_left (M := M) hA (k := k) (by omega) e
      unfold redTo
      rw [h1]
      simp only
      split at h
      · rename_i hp
        rw [if_pos (by rw [← h2]; exact hp)]
        exact step_left (by omega) h2 hp h3 h
      · rename_i hp
        cases h
        rw [if_neg (by rw [← h2]; exact hp)]
        exact ⟨b, rfl, h2, h3⟩
theorem piv_tail {n c : Nat} {M : Nat → Nat → FQ} {k : Nat} {b : RS} (h : redTo n c M k = some b) : ∀ {k' : Nat} {a : RS}, k ≤ k' → redTo n c M k' = some a → ∃ l, a.piv = b.piv ++ l ∧ ∀ x ∈ l, (k : Int) ≤ x
  | k', a, hk, ha => by
    rcases Nat.lt_or_eq_of_le hk with hl | rfl
    · obtain ⟨k'', rfl⟩ : ∃ q, k' = q + 1 := ⟨k' - 1, by omega⟩
      unfold redTo at ha
      cases e : redTo n c M k'' with
      | none => rw [e] at ha; cases ha
      | some s =>
        rw [e] at ha
        simp only at ha
        obtain ⟨l, h1, h2⟩ := piv_tail h (k' := k'') (a := s) (by omega) e
        split at ha
        · unfold redStep at ha
          split at ha
          · cases ha; exact ⟨l, h1, h2⟩
          · simp only at ha
            split at ha
            · cases ha
              refine ⟨l ++ [(k'' : Int)], by show s.piv ++ _ = _; rw [h1, List.append_assoc], fun x hx => ?_⟩
              rcases List.mem_append.1 hx with hx | hx
              · exact h2 x hx
              · rw [List.mem_singleton.1 hx]; omega
            · cases ha
        · cases ha; exact ⟨l, h1, h2⟩
    · rw [h] at ha; cases ha
      exact ⟨[], by simp, by simp⟩
theorem sol_some {n d : Nat} {M N X : Nat → Nat → FQ} (hM : ∀ i j, i < n → j < n → (M i j).good = true) (h : solO n n d M N = some X) : ∃ b, redTo n n M n = some b ∧ b.piv.length = n := by
  unfold solO at h
  cases e : redTo n (n + d) (besM n M N) (n + d) with
  | none => rw [e] at h; cases h
  | some a =>
    rw [e] at h
    simp only at h
    split at h
    · rename_i hs
      cases e0 : redTo n (n + d) (besM n M N) n with
      | none => rw [redTo_none e0 (by omega)] at e; cases e
      | some a0 =>
        obtain ⟨b, h1, h2, h3⟩ := red_left (M := M) (fun i j _ hj => if_pos hj) (Nat.le_refl n) e0
        have hpl := (redTo_inv hM h1).pl
        refine ⟨b, h1, ?_⟩
        obtain ⟨l, h4, h5⟩ := piv_tail e0 (k' := n + d) (by omega) e
        refine Classical.byContradiction fun hne => ?_
        have hlt : b.piv.length < n := by omega
        unfold solB at hs
        simp only [Bool.and_eq_true, Bool.or_eq_true, decide_eq_true_eq] at hs
        obtain ⟨s1, s2⟩ := hs
        rcases s2 with s2 | s2
        · omega
        · rw [h4, h2] at s1 s2
          rw [List.getD_eq_getElem?_getD, List.getElem?_append_right (by omega)] at s2
          rw [List.length_append] at s1
          rw [List.getElem?_eq_getElem (by omega), Option.getD_some] at s2
          have := h5 _ (List.getElem_mem (l := l) (n := n - 1 - b.piv.length) (by omega))
          omega
    · cases h
theorem sol_none {n d : Nat} {M N : Nat → Nat → FQ} (hM : ∀ i j, i < n → j < n → (M i j).good = true) (h : ∀ b, redTo n n M n = some b → b.piv.length ≠ n) : solO n n d M N = none := by
  cases e : solO n n d M N with
  | none => rfl
  | some X =>
    obtain ⟨b, h1, h2⟩ := sol_some hM e
    exact absurd h2 (h b h1)
theorem sol_good {n c d : Nat} {M N X : Nat → Nat → FQ} (hM : ∀ i j, i < n → j < c → (M i j).good = true) (hN : ∀ i j, i < n → j < d → (N i j).good = true) (h : solO n c d M N = some X) : ∀ i j, i < n → j < d → (X i j).good = true := by
  unfold solO at h
  cases e : redTo n (c + d) (besM c M N) (c + d) with
  | none => rw [e] at h; cases h
  | some a =>
    rw [e] at h
    simp only at h
    split at h
    · cases h
      intro i j hi hj
      exact (redTo_inv (besM_good hM hN) e).good i (c + j) hi (by omega)
    · cases h
end Go.Proofs.YtikmepdhpffdoaaGreat
