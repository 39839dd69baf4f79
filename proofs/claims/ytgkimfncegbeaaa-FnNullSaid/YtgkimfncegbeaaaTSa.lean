/- part of the proof -/
import Derived.Test.YtgkimfncegbeaaaTFa
namespace Go.Proofs.Ytgkimfncegbeaaa
set_option linter.unusedVariables false
set_option linter.unusedSimpArgs false
theorem rlt_or_le (a b : Rat) : a < b ∨ b ≤ a := by
  by_cases h : b ≤ a
  · exact .inr h
  · exact .inl (Rat.not_le.1 h)
def sm : Nat → (Nat → Rat) → Rat
  | 0, _ => 0
  | n + 1, f => sm n f + f n
theorem sm_congr {n : Nat} {f g : Nat → Rat} (h : ∀ j, j < n → f j = g j) : sm n f = sm n g := by
  induction n with
  | zero => rfl
  | succ n ih => unfold sm; rw [ih fun j hj => h j (by omega), h n (by omega)]
theorem sm_add {n : Nat} {f g : Nat → Rat} : sm n (fun j => f j + g j) = sm n f + sm n g := by
  induction n with
  | zero => unfold sm; grind
  | succ n ih => unfold sm; rw [ih]; grind
theorem sm_zero {n : Nat} {f : Nat → Rat} (h : ∀ j, j < n → f j = 0) : sm n f = 0 := by
  induction n with
  | zero => rfl
  | succ n ih => unfold sm; rw [ih fun j hj => h j (by omega), h n (by omega)]; grind
theorem sm_one {n k : Nat} {f : Nat → Rat} (hk : k < n) (h : ∀ j, j < n → j ≠ k → f j = 0) : sm n f = f k := by
  induction n with
  | zero => omega
  | succ n ih =>
    unfold sm
    by_cases e : k = n
    · subst e; rw [sm_zero fun j hj => h j (by omega) (by omega)]; grind
    · rw [ih (by omega) fun j hj hne => h j (by omega) hne, h n (by omega) (fun q => e q.symm)]; grind
theorem sm_ite {n k : Nat} {a : Rat} (hk : k < n) : sm n (fun j => if j = k then a else 0) = a := by
  rw [sm_one hk (fun j _ hne => if_neg hne), if_pos rfl]
def Pos (L : Nat) (v : Nat → Rat) : Prop := ∃ l, l < L ∧ 0 < v l ∧ ∀ k, k < l → v k = 0
def Nul (L : Nat) (v : Nat → Rat) : Prop := ∀ l, l < L → v l = 0
def Nng (L : Nat) (v : Nat → Rat) : Prop := Pos L v ∨ Nul L v
theorem Pos.congr {L : Nat} {u v : Nat → Rat} (h : Pos L u) (e : ∀ l, l < L → u l = v l) : Pos L v := by
  obtain ⟨l, h1, h2, h3⟩ := h
  exact ⟨l, h1, by rw [← e l h1]; exact h2, fun k hk => by rw [← e k (by omega)]; exact h3 k hk⟩
theorem Pos.not_nul {L : Nat} {v : Nat → Rat} (h : Pos L v) : ¬ Nul L v := by
  obtain ⟨l, h1, h2, _⟩ := h
  intro h; have := h l h1; grind
theorem Pos.add {L : Nat} {u v : Nat → Rat} (h : Pos L u) (g : Pos L v) : Pos L (fun l => u l + v l) := by
  obtain ⟨l, h1, h2, h3⟩ := h
  obtain ⟨k, g1, g2, g3⟩ := g
  rcases Nat.lt_trichotomy l k with hlk | rfl | hlk
  · exact ⟨l, h1, by have := g3 l hlk; grind, fun i hi => by have := h3 i hi; have := g3 i (by omega); grind⟩
  · exact ⟨l, h1, by grind, fun i hi => by have := h3 i hi; have := g3 i hi; grind⟩
  · exact ⟨k, g1, by have := h3 k hlk; grind, fun i hi => by have := h3 i (by omega); have := g3 i hi; grind⟩
theorem Pos.add_nul {L : Nat} {u v : Nat → Rat} (h : Pos L u) (g : Nul L v) : Pos L (fun l => u l + v l) :=
  h.congr fun l hl => by have := g l hl; grind
theorem Nng.add {L : Nat} {u v : Nat → Rat} (h : Nng L u) (g : Nng L v) : Nng L (fun l => u l + v l) := by
  rcases h with h | h <;> rcases g with g | g
  · exact .inl (h.add g)
  · exact .inl (h.add_nul g)
  · exact .inl ((g.add_nul h).congr fun l _ => by grind)
  · exact .inr fun l hl => by have := h l hl; have := g l hl; grind
theorem not_pos {L : Nat} {v : Nat → Rat} (h : ¬ Pos L v) : Nng L (fun l => -v l) := by
  by_cases hz : Nul L v
  · exact .inr fun l hl => by have := hz l hl; grind
  · have : ∃ l, l < L ∧ v l ≠ 0 := Classical.byContradiction fun q => hz fun l hl => Classical.byContradiction fun p => q ⟨l, hl, p⟩
    obtain ⟨l, h1, h2, h3⟩ : ∃ l, l < L ∧ v l ≠ 0 ∧ ∀ k, k < l → v k = 0 := by
      obtain ⟨l0, g1, g2⟩ := this
      induction l0 using Nat.strongRecOn with
      | _ l0 ih =>
        by_cases q : ∃ k, k < l0 ∧ v k ≠ 0
        · obtain ⟨k, q1, q2⟩ := q
          exact ih k q1 (by omega) q2
        · exact ⟨l0, g1, g2, fun k hk => Classical.byContradiction fun p => q ⟨k, hk, p⟩⟩
    refine .inl ⟨l, h1, ?_, fun k hk => by have := h3 k hk; grind⟩
    rcases rlt_or_le 0 (v l) with p | p
    · exact absurd ⟨l, h1, p, h3⟩ h
    · grind
theorem Pos.asymm {L : Nat} {v : Nat → Rat} (h : Pos L v) : ¬ Pos L (fun l => -v l) := by
  intro g
  have := (h.add g).not_nul
  exact this fun l _ => by grind
theorem Nng.not_pos {L : Nat} {v : Nat → Rat} (h : Nng L (fun l => -v l)) : ¬ Pos L v := by
  intro g
  rcases h with h | h
  · exact g.asymm h
  · exact g.not_nul fun l hl => by have := h l hl; grind
theorem Pos.some {L : Nat} {f : Nat → Nat → Rat} : ∀ {n : Nat}, Pos L (fun l => sm n (fun j => f l j)) → ∃ j, j < n ∧ Pos L (fun l => f l j)
  | 0, h => by
    obtain ⟨l, h1, h2, _⟩ := h
    have : (0 : Rat) < 0 := h2
    grind
  | n + 1, h => by
    by_cases q : Pos L (fun l => f l n)
    · exact ⟨n, by omega, q⟩
    · have h1 := not_pos q
      by_cases p : Pos L (fun l => sm n (fun j => f l j))
      · obtain ⟨j, hj, e⟩ := p.some
        exact ⟨j, by omega, e⟩
      · have h2 := not_pos p
        refine absurd h (Nng.not_pos ?_)
        rcases h2.add h1 with h | h
        · exact .inl (h.congr fun l _ => by show -sm n _ + -f l n = -(sm n _ + f l n); grind)
        · exact .inr fun l hl => by have := h l hl; show -(sm n _ + f l n) = 0; grind
structure Tb where
  A : Nat → Nat → Rat
  β : Nat → Nat
structure Tab (m N : Nat) (t : Tb) : Prop where
  bl : ∀ i, i < m → t.β i < N
  un : ∀ i k, i < m → k < m → t.A i (t.β k) = if i = k then 1 else 0
theorem Tab.inj {m N : Nat} {t : Tb} (h : Tab m N t) {i k : Nat} (hi : i < m) (hk : k < m) (e : t.β i = t.β k) : i = k := by
  have h1 := h.un i i hi hi
  rw [e, h.un i k hi hk] at h1
  by_cases q : i = k
  · exact q
  · rw [if_neg q, if_pos rfl] at h1; grind
def Tb.q (t : Tb) (r k j : Nat) : Rat := t.A r j / t.A r k
def Tb.piv (t : Tb) (r k : Nat) : Tb := ⟨fun i j => if i = r then t.q r k j else t.A i j - t.A i k * t.q r k j, fun i => if i = r then k else t.β i⟩
theorem div_self' {a : Rat} (h : a ≠ 0) : a / a = 1 := by rw [Rat.div_def, Rat.mul_inv_cancel a h]
theorem zero_div' {a : Rat} : (0 : Rat) / a = 0 := by rw [Rat.div_def, Rat.zero_mul]
theorem Tab.piv {m N : Nat} {t : Tb} (h : Tab m N t) {r k : Nat} (hr : r < m) (hk : k < N) (h0 : t.A r k ≠ 0) : Tab m N (t.piv r k) := by
  have hqk : t.q r k k = 1 := div_self' h0
  refine ⟨fun i hi => ?_, fun i l hi hl => ?_⟩
  · show (if i = r then k else t.β i) < N
    split
    · exact hk
    · exact h.bl i hi
  · show (if i = r then t.q r k (if l = r then k else t.β l) else t.A i (if l = r then k else t.β l) - t.A i k * t.q r k (if l = r then k else t.β l)) = _
    by_cases hlr : l = r
    · rw [if_pos hlr, hqk]
      by_cases hir : i = r
      · rw [if_pos hir, if_pos (by omega)]
      · rw [if_neg hir, if_neg (by omega)]; grind
    · rw [if_neg hlr]
      have hq : t.q r k (t.β l) = 0 := by unfold Tb.q; rw [h.un r l hr hl, if_neg (fun e => hlr e.symm), zero_div']
      rw [hq]
      by_cases hir : i = r
      · rw [if_pos hir, if_neg (by omega)]
      · rw [if_neg hir, h.un i l hi hl]; grind
def val (m N : Nat) (t : Tb) (c : Nat → Rat) : Rat := sm m (fun i => c (t.β i) * t.A i N)
end Go.Proofs.Ytgkimfncegbeaaa
