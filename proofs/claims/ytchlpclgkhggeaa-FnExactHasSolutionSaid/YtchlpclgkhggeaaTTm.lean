/- part of the proof -/
import Derived.Test.YtchlpclgkhggeaaTTl
namespace Go.Proofs.Ytchlpclgkhggeaa
open Go Go.RowKit
set_option maxRecDepth 100000
set_option maxHeartbeats 4000000
set_option linter.unusedVariables false
set_option linter.unusedSimpArgs false
theorem gain_rhs {p : LP} {m N : Nat} {t : Tb} (ht : Tab m N t) (hf : Fea m N t) (hN : N = p.n + p.m) : gain m t (c1 p) N = 0 ↔ ∀ i, i < m → p.n ≤ t.β i → t.A i N = 0 := by
  have e0 : c1 p N = 0 := by unfold c1; rw [if_neg (by omega), if_neg (by omega)]
  have e1 : gain m t (c1 p) N = sm m (fun i => if p.n ≤ t.β i then t.A i N else 0) := by
    unfold gain
    rw [e0, sm_congr (g := fun i => -(if p.n ≤ t.β i then t.A i N else 0)) fun i hi => ?_, sm_neg]
    · grind
    · have hb := ht.bl i hi
      unfold c1
      by_cases e : p.n ≤ t.β i
      · rw [if_neg (by omega), if_pos (by omega), if_pos e]; grind
      · rw [if_pos (by omega), if_neg e]; grind
  rw [e1]
  constructor
  · intro h i hi hb
    have := sm_eq_zero (fun j hj => by
      show 0 ≤ (if p.n ≤ t.β j then t.A j N else 0)
      split
      · exact hf j hj
      · exact Rat.le_refl) h i hi
    simpa [hb] using this
  · intro h
    exact sm_zero fun i hi => by
      show (if p.n ≤ t.β i then t.A i N else 0) = 0
      split
      · exact h i hi (by assumption)
      · rfl
theorem PD.end1 {p : Prg} {r c : Nat} (h : PD p r c) : ∃ K t, stopS r (c + r) false (itS r (c + r) false (fstS p r c) K) = true ∧ (∀ n, n < K → stopS r (c + r) false (itS r (c + r) false (fstS p r c) n) = false) ∧
    RunS p.lp (c1 p.lp) r (c + r) (itS r (c + r) false (fstS p r c) K) t ∧
    (((itS r (c + r) false (fstS p r c) K).cost (c + r)).num = 0 ↔ ∃ x, p.lp.Fx x) ∧ ((∃ x, p.lp.Fx x) → Cl p.lp (c + r) r t) := by
  obtain ⟨K, g1, g2, g3, g4⟩ := runS (L := 1) (deep := false) (C := fun _ => c1 p.lp) Lk.flat (by rw [h.m]; exact h.r20) (by rw [h.m]; exact Nat.le_refl _) (c1_ib p.lp) h.run1
  have hK := g3 K (Nat.le_refl _)
  obtain ⟨k1, k2⟩ := steps_keep (st := itT r (c + r) false (fstS p r c) (ph1 p.lp)) h.run1.tab g4 K (Nat.le_refl _)
  refine ⟨K, _, g1, g2, hK, ?_⟩
  have hent := entS_spec hK.sr hK.tab (Lk.flat (p := p.lp) (c := c1 p.lp) (N := c + r))
  have hlv := fun hlt => lvS_spec (k := entS (itS r (c + r) false (fstS p r c) K) r (c + r) false) hK.sr hlt r (Nat.le_refl _)
  have hk2 : ∀ x, Sol p.lp.m (p.lp.n + p.lp.m) (ph1 p.lp).A x ↔ Sol p.lp.m (p.lp.n + p.lp.m) (itT r (c + r) false (fstS p r c) (ph1 p.lp) K).A x := by rw [h.m, h.n]; exact k2
  have hle : entS (itS r (c + r) false (fstS p r c) K) r (c + r) false ≤ c + r := entS_le
  have hcost := hK.sr.cost (c + r) (Nat.le_refl _)
  have ht := hK.tab
  have hf := hK.fea
  unfold stopS at g1
  generalize entS (itS r (c + r) false (fstS p r c) K) r (c + r) false = e at *
  generalize itS r (c + r) false (fstS p r c) K = s at *
  generalize itT r (c + r) false (fstS p r c) (ph1 p.lp) K = t at *
  have hm := h.m
  have hn := h.n
  have hee : e = c + r := by
    rcases Nat.lt_or_eq_of_le hle with hlt | q
    · exfalso
      have he := hent.1 hlt
      have ht' := ht
      rw [← hn, ← hm] at he
      have ht2 : Tab p.lp.m (p.lp.n + p.lp.m) t := by rw [hn, hm]; exact ht
      obtain ⟨i, hi, hp⟩ := ph1_bound ht2 (by rw [hm] at he ⊢; exact he)
      have hl := hlv hlt
      cases e2 : lvS s (c + r) e r with
      | none =>
        rw [e2] at hl
        have := hl i (by rw [← hm]; exact hi)
        grind
      | some bl =>
        rw [e2] at g1
        simp only [Option.isNone_some, Bool.or_false, decide_eq_true_iff] at g1
        omega
    · exact q
  have hend := hent.2 hee
  have hgz := gain_rhs (p := p.lp) ht hf (by rw [hn, hm])
  have hpe := ph1_end (fr := fun _ => True) (t := t) (by rw [hn, hm]; exact ht) (by rw [hn, hm]; exact hf) hk2 (fun _ _ => trivial) (fun j hj _ hb => by rw [hm] at hb ⊢; exact hend j (by rw [← hm, ← hn]; exact hj) hb)
  rw [hcost.num, hgz]
  have e3 : (∀ i, i < r → p.lp.n ≤ t.β i → t.A i (c + r) = 0) ↔ ∃ x, p.lp.Fx x := by rw [hpe, hm, hn]
  refine ⟨e3, fun hx => ?_⟩
  have := Cl.first (p := p.lp) (t := t) (by rw [hn, hm]; exact ht) (by rw [hn, hm]; exact hf) hk2 (by have q := e3.2 hx; rw [hn] at q; rw [hm, hn]; exact q)
  rw [hm, hn] at this
  exact this
end Go.Proofs.Ytchlpclgkhggeaa
