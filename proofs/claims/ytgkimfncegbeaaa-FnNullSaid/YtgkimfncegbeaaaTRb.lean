/- part of the proof -/
import Derived.Test.YtgkimfncegbeaaaTRa
import Derived.Test.YtgkimfncegbeaaaTXo
import Derived.Test.YtgkimfncegbeaaaTXs
namespace Go.Proofs.Ytgkimfncegbeaaa
open Go Go.RowKit
set_option maxRecDepth 100000
set_option maxHeartbeats 4000000
set_option linter.unusedVariables false
set_option linter.unusedSimpArgs false
def dotR : Nat → (Nat → Rat) → (Nat → Rat) → Rat
  | 0, _, _ => 0
  | c + 1, u, y => dotR c u y + u c * y c
theorem dotR_congr {c : Nat} {u v y : Nat → Rat} (h : ∀ j, j < c → u j = v j) : dotR c u y = dotR c v y := by
  induction c with
  | zero => rfl
  | succ c ih => unfold dotR; rw [ih fun j hj => h j (by omega), h c (by omega)]
theorem dotR_div {c : Nat} {u y : Nat → Rat} {p : Rat} : dotR c (fun j => u j / p) y = dotR c u y / p := by
  induction c with
  | zero => unfold dotR; rw [Rat.div_def, Rat.zero_mul]
  | succ c ih => unfold dotR; rw [ih]; simp only [Rat.div_def]; grind
theorem dotR_sub {c : Nat} {u v y : Nat → Rat} {f : Rat} : dotR c (fun j => u j - f * v j) y = dotR c u y - f * dotR c v y := by
  induction c with
  | zero => unfold dotR; grind
  | succ c ih => unfold dotR; rw [ih]; grind
def Kt (K0 : Nat) : Nat → Nat
  | 0 => K0
  | t + 1 => 4 * Kt K0 t + 1
theorem Kt_le {K0 s : Nat} : ∀ {t : Nat}, s ≤ t → Kt K0 s ≤ Kt K0 t
  | 0, h => by obtain rfl : s = 0 := by omega
               exact Nat.le_refl _
  | t + 1, h => by
    rcases Nat.lt_or_eq_of_le h with h1 | rfl
    · have := Kt_le (K0 := K0) (s := s) (t := t) (by omega)
      show _ ≤ 4 * Kt K0 t + 1
      omega
    · exact Nat.le_refl _
def Dt (K0 : Nat) : Nat → Nat
  | 0 => 1
  | t + 1 => Dt K0 t + Kt K0 t
structure GJ (n c k K0 : Nat) (A R : Nat → Nat → Rat) (st : RS) : Prop where
  val : ∀ i j, i < n → j < c → FV (st.M i j) (R i j) (Kt K0 st.piv.length)
  pl : st.piv.length ≤ n
  lt : ∀ t, t < st.piv.length → ∃ p : Nat, st.piv[t]? = some (p : Int) ∧ p < k
  asc : ∀ (s t p q : Nat), s < t → st.piv[s]? = some (p : Int) → st.piv[t]? = some (q : Int) → p < q
  unit : ∀ (t p : Nat), st.piv[t]? = some (p : Int) → ∀ i, i < n → R i p = if i = t then 1 else 0
  zero : ∀ i j, st.piv.length ≤ i → i < n → j < k → R i j = 0
  ker : ∀ y : Nat → Rat, (∀ i, i < n → dotR c (R i) y = 0) ↔ (∀ i, i < n → dotR c (A i) y = 0)
  ech : ∀ (t p : Nat), st.piv[t]? = some (p : Int) → ∀ j, j < p → R t j = 0
  det : ∃ δ, FV st.det δ (Dt K0 st.piv.length) ∧ δ ≠ 0
theorem GJ.step {n c k K0 : Nat} {A R : Nat → Nat → Rat} {st : RS} (h : GJ n c k K0 A R st) (hk : k < c) (hp : st.piv.length < n) (hK : Kt K0 (st.piv.length + 1) ≤ 696) (hD : Dt K0 (st.piv.length + 1) ≤ 696) :
    ∃ st' R', redStep n c st k = some st' ∧ GJ n c (k + 1) K0 A R' st' := by
  obtain ⟨M, piv, det⟩ := st
  obtain ⟨hv, hpl, hlt, hasc, hun, hz, hker, hech, δ, hdet, hδ⟩ := h
  simp only at hv hpl hlt hasc hun hz hker hech hdet hp hK hD
  have hf := firstR_spec (M := M) (k := k) (used := piv.length) (n := n) hpl
  unfold redStep
  simp only
  generalize hj : firstR M k piv.length n = j at *
  obtain ⟨f1, f2, f3, f4⟩ := hf
  by_cases hjn : j = n
  · rw [if_pos hjn]
    refine ⟨_, R, rfl, ⟨hv, hpl, fun t ht => ?_, hasc, hun, fun i b h1 h2 h3 => ?_, hker, hech, δ, hdet, hδ⟩⟩
    · obtain ⟨p, e, h1⟩ := hlt t ht
      exact ⟨p, e, by omega⟩
    · by_cases e : b = k
      · subst e
        exact (hv i b h2 hk).num.1 (f3 i h1 (by omega))
      · exact hz i b h1 h2 (by omega)
  · rw [if_neg hjn]
    have hjl : j < n := by omega
    have f4 := f4 hjl
    obtain ⟨np, hnp⟩ : ∃ np, np = piv.length := ⟨_, rfl⟩
    rw [← hnp] at hv hpl hlt hz hdet hp hK hD f1 f3 ⊢
    obtain ⟨K, hKe⟩ : ∃ K, K = Kt K0 np := ⟨_, rfl⟩
    rw [← hKe] at hv
    have hK1 : Kt K0 (np + 1) = 4 * K + 1 := by rw [hKe]; rfl
    have hD1 : Dt K0 (np + 1) = Dt K0 np + K := by rw [hKe]; rfl
    -- rows exchanged
    obtain ⟨S, hS⟩ : ∃ S, S = swapM M j np := ⟨_, rfl⟩
    obtain ⟨Q, hQ⟩ : ∃ Q : Nat → Nat → Rat, Q = fun i => if i = j then R np else if i = np then R j else R i := ⟨_, rfl⟩
    have hSv : ∀ i b, i < n → b < c → FV (S i b) (Q i b) K := fun i b hi hb => by
      rw [hS, hQ]; unfold swapM; simp only
      split
      · exact hv np b hp hb
      · split
        · exact hv j b hjl hb
        · exact hv i b hi hb
    have hQk : ∀ y : Nat → Rat, (∀ i, i < n → dotR c (Q i) y = 0) ↔ (∀ i, i < n → dotR c (R i) y = 0) := fun y => by
      rw [hQ]
      constructor
      · intro h i hi
        by_cases e1 : i = np
        · subst e1
          have := h j hjl; simp only [if_true] at this; exact this
        · by_cases e2 : i = j
          · subst e2
            have := h np hp
            simp only [if_neg (Ne.symm e1), if_true] at this; exact this
          · have := h i hi
            simp only [if_neg e2, if_neg e1] at this; exact this
      · intro h i hi
        simp only
        split
        · exact h np hp
        · split
          · exact h j hjl
          · exact h i hi
    have hQz : ∀ i b, np ≤ i → i < n → b < k → Q i b = 0 := fun i b h1 h2 h3 => by
      rw [hQ]; simp only
      split
      · exact hz np b (Nat.le_refl _) hp h3
      · split
        · exact hz j b f1 hjl h3
        · exact hz i b h1 h2 h3
    have hQu : ∀ (t p : Nat), t < np → piv[t]? = some (p : Int) → ∀ i, i < n → Q i p = if i = t then 1 else 0 := fun t p ht hp' i hi => by
      rw [hQ]; simp only
      by_cases e1 : i = j
      · rw [if_pos e1, hun t p hp' np hp, if_neg (by omega), if_neg (by omega)]
      · rw [if_neg e1]
        by_cases e2 : i = np
        · rw [if_pos e2, hun t p hp' j hjl, if_neg (by omega), if_neg (by omega)]
        · rw [if_neg e2, hun t p hp' i hi]
    have hpk : Q np k ≠ 0 := by
      have e : Q np k = R j k := by
        rw [hQ]; simp only
        by_cases e : np = j
        · rw [if_pos e, e]
        · simp [e]
      rw [e]
      exact fun q => f4 ((hv j k hjl hk).num.2 q)
    rw [← hS]
    -- the pivot's row divided, the others cleared
    have hdv : ∀ b, b < c → FV (divM S np k b) (Q np b / Q np k) (K + K) := fun b hb => by
      unfold divM
      exact (hSv np b hp hb).div (hSv np k hp hk) hpk (by omega)
    obtain ⟨R', hR'⟩ : ∃ R' : Nat → Nat → Rat, R' = fun i b => if i = np then Q np b / Q np k else Q i b - Q i k * (Q np b / Q np k) := ⟨_, rfl⟩
    have hTv : ∀ i b, i < n → b < c → FV (clrM S np k i b) (R' i b) (Kt K0 (np + 1)) := fun i b hi hb => by
      rw [hR', hK1]; unfold clrM; simp only
      split
      · exact (hdv b hb).mono (by omega)
      · split
        · rename_i h0
          have q0 : Q i k = 0 := (hSv i k hi hk).num.1 h0
          have q := hSv i b hi hb
          exact (q.val (by rw [q0]; grind) (by rw [q0, show Q i b - 0 * (Q np b / Q np k) = Q i b by grind]; exact q.s)).mono (by omega)
        · exact ((hSv i b hi hb).sub ((hSv i k hi hk).mul (hdv b hb) (by omega)) (by omega)).mono (by omega)
    have hall : allG (gridL n c (clrM S np k)) = true := gridL_all fun i b hi hb => (hTv i b hi hb).good
    rw [hall, if_pos rfl]
    have hlen : (piv ++ [(k : Int)]).length = np + 1 := by rw [List.length_append, ← hnp]; rfl
    refine ⟨_, R', rfl, ⟨fun i b hi hb => ?_, ?_, fun t ht => ?_, fun s t p q hst g1 g2 => ?_, fun t p g1 i hi => ?_, fun i b h1 h2 h3 => ?_, fun y => ?_, fun t p g1 b hb => ?_, ?_⟩⟩
    · show FV _ _ (Kt K0 (piv ++ [(k : Int)]).length)
      rw [hlen]; exact hTv i b hi hb
    · show (piv ++ [(k : Int)]).length ≤ n
      rw [hlen]; omega
    · have ht : t < (piv ++ [(k : Int)]).length := ht
      rw [hlen] at ht
      show ∃ p : Nat, (piv ++ [(k : Int)])[t]? = some (p : Int) ∧ p < k + 1
      by_cases e : t < np
      · obtain ⟨p, e1, e2⟩ := hlt t e
        exact ⟨p, by rw [List.getElem?_append_left (by omega)]; exact e1, by omega⟩
      · obtain rfl : t = np := by omega
        exact ⟨k, by rw [List.getElem?_append_right (by omega), ← hnp, Nat.sub_self]; rfl, by omega⟩
    · have e1 : (piv ++ [(k : Int)])[s]? = some (p : Int) := g1
      have e2 : (piv ++ [(k : Int)])[t]? = some (q : Int) := g2
      have ht : t < np + 1 := by rw [← hlen]; exact (List.getElem?_eq_some_iff.1 e2).1
      rw [List.getElem?_append_left (by omega)] at e1
      by_cases e : t < np
      · rw [List.getElem?_append_left (by omega)] at e2
        exact hasc s t p q hst e1 e2
      · obtain rfl : t = np := by omega
        rw [List.getElem?_append_right (by omega), ← hnp, Nat.sub_self] at e2
        simp only [List.getElem?_cons_zero, Option.some.injEq] at e2
        obtain ⟨p', e3, e4⟩ := hlt s hst
        rw [e1] at e3
        simp only [Option.some.injEq] at e3
        omega
    · have e : (piv ++ [(k : Int)])[t]? = some (p : Int) := g1
      have ht : t < np + 1 := by rw [← hlen]; exact (List.getElem?_eq_some_iff.1 e).1
      rw [hR']; simp only
      by_cases e5 : t < np
      · rw [List.getElem?_append_left (by omega)] at e
        have h0 : Q np p = 0 := by rw [hQu t p e5 e np hp, if_neg (by omega)]
        rw [h0, Rat.div_def, Rat.zero_mul]
        by_cases e6 : i = np
        · rw [if_pos e6, if_neg (by omega)]
        · rw [if_neg e6, Rat.mul_zero, hQu t p e5 e i hi]; grind
      · obtain rfl : t = np := by omega
        rw [List.getElem?_append_right (by omega), ← hnp, Nat.sub_self] at e
        simp only [List.getElem?_cons_zero, Option.some.injEq] at e
        obtain rfl : p = k := by omega
        have h1 : Q t p / Q t p = 1 := by rw [Rat.div_def, Rat.mul_inv_cancel _ hpk]
        rw [h1]
        by_cases e6 : i = t
        · rw [if_pos e6, if_pos e6]
        · rw [if_neg e6, if_neg e6]; grind
    · have h1 : (piv ++ [(k : Int)]).length ≤ i := h1
      rw [hlen] at h1
      rw [hR']; simp only
      rw [if_neg (by omega)]
      by_cases e : b = k
      · rw [e]
        have h1 : Q np k / Q np k = 1 := by rw [Rat.div_def, Rat.mul_inv_cancel _ hpk]
        rw [h1]; grind
      · rw [hQz i b (by omega) h2 (by omega), hQz np b (Nat.le_refl _) hp (by omega), Rat.div_def, Rat.zero_mul]; grind
    · rw [← hker y, ← hQk y, hR']
      have d1 : ∀ i, i ≠ np → dotR c (fun b => if i = np then Q np b / Q np k else Q i b - Q i k * (Q np b / Q np k)) y = dotR c (Q i) y - Q i k * (dotR c (Q np) y / Q np k) := fun i hi => by
        rw [dotR_congr (v := fun b => Q i b - Q i k * (Q np b / Q np k)) (fun b _ => if_neg hi), dotR_sub, dotR_div]
      have d2 : dotR c (fun b => if np = np then Q np b / Q np k else Q np b - Q np k * (Q np b / Q np k)) y = dotR c (Q np) y / Q np k := by
        rw [dotR_congr (v := fun b => Q np b / Q np k) (fun b _ => if_pos rfl), dotR_div]
      constructor
      · intro h
        have h0 : dotR c (Q np) y = 0 := by
          have := h np hp
          rw [d2] at this
          have e : dotR c (Q np) y = dotR c (Q np) y / Q np k * Q np k := by
            rw [Rat.div_def, Rat.mul_assoc, Rat.inv_mul_cancel _ hpk, Rat.mul_one]
          rw [e, this, Rat.zero_mul]
        intro i hi
        by_cases e : i = np
        · rw [e]; exact h0
        · have := h i hi
          rw [d1 i e, h0] at this
          have e2 : (0 : Rat) / Q np k = 0 := by rw [Rat.div_def, Rat.zero_mul]
          rw [e2] at this; grind
      · intro h i hi
        by_cases e : i = np
        · subst e
          rw [d2, h i hi, Rat.div_def, Rat.zero_mul]
        · rw [d1 i e, h i hi, h np hp, Rat.div_def, Rat.zero_mul]; grind
    · have e : (piv ++ [(k : Int)])[t]? = some (p : Int) := g1
      have ht : t < np + 1 := by rw [← hlen]; exact (List.getElem?_eq_some_iff.1 e).1
      rw [hR']; simp only
      by_cases e5 : t < np
      · rw [List.getElem?_append_left (by omega)] at e
        obtain ⟨p', e3, e4⟩ := hlt t e5
        rw [e] at e3
        simp only [Option.some.injEq] at e3
        have h0 : Q np b = 0 := hQz np b (Nat.le_refl _) hp (by omega)
        have h1 : Q t b = 0 := by
          rw [hQ]; simp only
          rw [if_neg (by omega), if_neg (by omega)]
          exact hech t p e b hb
        rw [if_neg (by omega), h0, h1, Rat.div_def, Rat.zero_mul, Rat.mul_zero]; grind
      · obtain rfl : t = np := by omega
        rw [List.getElem?_append_right (by omega), ← hnp, Nat.sub_self] at e
        simp only [List.getElem?_cons_zero, Option.some.injEq] at e
        rw [if_pos rfl, hQz t b (Nat.le_refl _) hp (by omega), Rat.div_def, Rat.zero_mul]
    · have e : ∃ ε, FV (if j = np then det else det.neg) ε (Dt K0 np) ∧ ε ≠ 0 := by
        split
        · exact ⟨δ, hdet, hδ⟩
        · exact ⟨-δ, hdet.neg, by grind⟩
      obtain ⟨ε, g1, g2⟩ := e
      refine ⟨ε * Q np k, ?_, ?_⟩
      · show FV _ _ (Dt K0 (piv ++ [(k : Int)]).length)
        rw [hlen, hD1]
        exact g1.mul (hSv np k hp hk) (by omega)
      · intro z
        have : ε * Q np k * (Q np k)⁻¹ = 0 := by rw [z, Rat.zero_mul]
        rw [Rat.mul_assoc, Rat.mul_inv_cancel _ hpk, Rat.mul_one] at this
        exact g2 this
theorem Dt_le {K0 s : Nat} : ∀ {t : Nat}, s ≤ t → Dt K0 s ≤ Dt K0 t
  | 0, h => by obtain rfl : s = 0 := by omega
               exact Nat.le_refl _
  | t + 1, h => by
    rcases Nat.lt_or_eq_of_le h with h1 | rfl
    · have := Dt_le (K0 := K0) (s := s) (t := t) (by omega)
      show _ ≤ Dt K0 t + Kt K0 t
      omega
    · exact Nat.le_refl _
theorem GJ.to {n c K0 : Nat} {M : Nat → Nat → FQ} {A : Nat → Nat → Rat} (hA : ∀ i j, i < n → j < c → FV (M i j) (A i j) K0) (hK : Kt K0 n ≤ 696) (hD : Dt K0 n ≤ 696) : ∀ {k : Nat}, k ≤ c →
    ∃ st R, redTo n c M k = some st ∧ GJ n c k K0 A R st
  | 0, _ => ⟨_, A, rfl, ⟨hA, Nat.zero_le _, fun t h => by simp at h, fun s t p q _ h _ => by simp at h, fun t p h => by simp at h, fun i j _ _ h => by omega, fun _ => Iff.rfl, fun t p h => by simp at h, 1, FV.ofInt (z := 1) (k := 1) (by decide) (by decide), by decide⟩⟩
  | k + 1, hk => by
    obtain ⟨st, R, e, h⟩ := GJ.to hA hK hD (k := k) (by omega)
    unfold redTo
    rw [e]
    simp only
    by_cases hp : st.piv.length < n
    · rw [if_pos hp]
      exact h.step (by omega) hp (Nat.le_trans (Kt_le hp) hK) (Nat.le_trans (Dt_le hp) hD)
    · rw [if_neg hp]
      refine ⟨st, R, rfl, ⟨h.val, h.pl, fun t ht => ?_, h.asc, h.unit, fun i j h1 h2 _ => ?_, h.ker, h.ech, h.det⟩⟩
      · obtain ⟨p, e1, e2⟩ := h.lt t ht
        exact ⟨p, e1, by omega⟩
      · have := h.pl; omega
end Go.Proofs.Ytgkimfncegbeaaa
