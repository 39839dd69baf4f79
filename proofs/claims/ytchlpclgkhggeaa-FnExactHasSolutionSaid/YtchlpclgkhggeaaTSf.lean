/- part of the proof -/
import Derived.Test.YtchlpclgkhggeaaTSe
import Derived.Test.YtchlpclgkhggeaaTSd
namespace Go.Proofs.Ytchlpclgkhggeaa
set_option linter.unusedVariables false
set_option linter.unusedSimpArgs false
def Plk (m : Nat) (M0 : Nat → Nat → Rat) (t : Tb) (δ : Rat) : Prop := δ ≠ 0 ∧ ∀ S : Nat → Nat, det m (fun i l => t.A i (S l)) * δ = det m (fun i l => M0 i (S l))
theorem Plk.first (m : Nat) (t : Tb) : Plk m t.A t 1 := ⟨by decide, fun S => Rat.mul_one _⟩
theorem Plk.piv {m : Nat} {M0 : Nat → Nat → Rat} {t : Tb} {δ : Rat} (h : Plk m M0 t δ) {r k : Nat} (hr : r < m) (h0 : t.A r k ≠ 0) : Plk m M0 (t.piv r k) (t.A r k * δ) := by
  refine ⟨fun e => ?_, fun S => ?_⟩
  · rcases Rat.mul_eq_zero.1 e with q | q
    · exact h0 q
    · exact h.1 q
  · rw [← h.2 S]
    have e1 := det_add (m := m) (M := fun i l => if i = r then (t.A r k)⁻¹ * t.A r (S l) else t.A i (S l)) hr (fun i => -t.A i k)
    have e2 := det_scale (m := m) (M := fun i l => t.A i (S l)) hr (t.A r k)⁻¹
    have e3 : det m (fun i l => (t.piv r k).A i (S l)) = (t.A r k)⁻¹ * det m (fun i l => t.A i (S l)) := by
      rw [← e2, ← e1]
      refine det_congr fun i l _ _ => ?_
      show (if i = r then t.q r k (S l) else t.A i (S l) - t.A i k * t.q r k (S l)) = if i = r then (if r = r then (t.A r k)⁻¹ * t.A r (S l) else t.A r (S l)) else (if i = r then (t.A r k)⁻¹ * t.A r (S l) else t.A i (S l)) + -t.A i k * (if r = r then (t.A r k)⁻¹ * t.A r (S l) else t.A r (S l))
      unfold Tb.q
      rw [Rat.div_def]
      by_cases q : i = r
      · rw [if_pos q, if_pos q, if_pos rfl]; grind
      · rw [if_neg q, if_neg q, if_neg q, if_pos rfl]; grind
    rw [e3]
    have : (t.A r k)⁻¹ * t.A r k = 1 := Rat.inv_mul_cancel _ h0
    have : (t.A r k)⁻¹ * det m (fun i l => t.A i (S l)) * (t.A r k * δ) = ((t.A r k)⁻¹ * t.A r k) * (det m (fun i l => t.A i (S l)) * δ) := by grind
    rw [this, Rat.inv_mul_cancel _ h0, Rat.one_mul]
theorem Plk.cramer {m N : Nat} {M0 : Nat → Nat → Rat} {t : Tb} {δ : Rat} (h : Plk m M0 t δ) (ht : Tab m N t) {i : Nat} (hi : i < m) (j : Nat) : t.A i j * δ = det m (fun a l => M0 a (if l = i then j else t.β l)) := by
  rw [← h.2 fun l => if l = i then j else t.β l]
  congr 1
  rw [← det_unit (m := m) (i := i) (v := fun a => t.A a j) hi]
  refine det_congr fun a l ha hl => ?_
  by_cases q : l = i
  · rw [if_pos q, if_pos q]
  · rw [if_neg q, if_neg q, ht.un a l ha hl]
theorem Plk.delta {m N : Nat} {M0 : Nat → Nat → Rat} {t : Tb} {δ : Rat} (h : Plk m M0 t δ) (ht : Tab m N t) : δ = det m (fun a l => M0 a (t.β l)) := by
  rw [← h.2 t.β, det_congr (N := fun a l => if a = l then 1 else 0) fun a l ha hl => ht.un a l ha hl, det_one, Rat.one_mul]
structure Bd (p : LP) (B m N : Nat) (t : Tb) (δ : Rat) : Prop where
  ex : ∃ (u : Tb) (ι κ : Nat → Nat), Tab p.m (p.n + p.m) u ∧ Plk p.m (ph1 p).A u δ ∧ (∀ i, i < m → ι i < p.m) ∧ (∀ i k, i < m → k < m → ι i = ι k → i = k) ∧ (∀ j, j ≤ N → κ j ≤ p.n + p.m) ∧ (∀ j, j < N → κ j < p.n + p.m) ∧
    ∀ i j, i < m → j ≤ N → t.A i j = u.A (ι i) (κ j)
  ib : ∀ i j, i < p.m → j ≤ p.n + p.m → IB ((ph1 p).A i j) B
theorem Bd.first {p : LP} {B : Nat} (h : ∀ i j, i < p.m → j ≤ p.n + p.m → IB ((ph1 p).A i j) B) : Bd p B p.m (p.n + p.m) (ph1 p) 1 :=
  ⟨⟨ph1 p, id, id, ph1_tab p, Plk.first _ _, fun _ h => h, fun _ _ _ _ h => h, fun _ h => h, fun _ h => h, fun _ _ _ _ => rfl⟩, h⟩
theorem Bd.piv {p : LP} {B m N : Nat} {t : Tb} {δ : Rat} (h : Bd p B m N t δ) {r k : Nat} (hr : r < m) (hk : k < N) (h0 : t.A r k ≠ 0) : Bd p B m N (t.piv r k) (t.A r k * δ) := by
  obtain ⟨⟨u, ι, κ, h1, h2, h3, h4, h5, h6, h7⟩, hib⟩ := h
  have e0 := h7 r k hr (by omega)
  have h0' : u.A (ι r) (κ k) ≠ 0 := by rw [← e0]; exact h0
  refine ⟨⟨u.piv (ι r) (κ k), ι, κ, h1.piv (h3 r hr) (h6 k hk) h0', by rw [e0]; exact h2.piv (h3 r hr) h0', h3, h4, h5, h6, fun i j hi hj => ?_⟩, hib⟩
  show (if i = r then t.q r k j else t.A i j - t.A i k * t.q r k j) = if ι i = ι r then u.q (ι r) (κ k) (κ j) else u.A (ι i) (κ j) - u.A (ι i) (κ k) * u.q (ι r) (κ k) (κ j)
  have eq : t.q r k j = u.q (ι r) (κ k) (κ j) := by unfold Tb.q; rw [h7 r j hr hj, e0]
  by_cases q : i = r
  · subst q; rw [if_pos rfl, if_pos rfl, eq]
  · rw [if_neg q, if_neg (fun e => q (h4 i r hi hr e)), eq, h7 i j hi hj, h7 i k hi (by omega)]
theorem Bd.sub {p : LP} {B m N m' N' : Nat} {t t' : Tb} {δ : Rat} (h : Bd p B m N t δ) (ι κ : Nat → Nat) (h1 : ∀ i, i < m' → ι i < m) (h2 : ∀ i k, i < m' → k < m' → ι i = ι k → i = k) (h3 : ∀ j, j ≤ N' → κ j ≤ N) (h4 : ∀ j, j < N' → κ j < N)
    (he : ∀ i j, i < m' → j ≤ N' → t'.A i j = t.A (ι i) (κ j)) : Bd p B m' N' t' δ := by
  obtain ⟨⟨u, ι0, κ0, g1, g2, g3, g4, g5, g6, g7⟩, hib⟩ := h
  exact ⟨⟨u, fun i => ι0 (ι i), fun j => κ0 (κ j), g1, g2, fun i hi => g3 _ (h1 i hi), fun i k hi hk e => h2 i k hi hk (g4 _ _ (h1 i hi) (h1 k hk) e), fun j hj => g5 _ (h3 j hj), fun j hj => g6 _ (h4 j hj), fun i j hi hj => by rw [he i j hi hj, g7 _ _ (h1 i hi) (h3 j hj)]⟩, hib⟩
theorem Bd.congr {p : LP} {B m N : Nat} {t t' : Tb} {δ : Rat} (h : Bd p B m N t δ) (he : ∀ i j, i < m → j ≤ N → t'.A i j = t.A i j) : Bd p B m N t' δ :=
  h.sub id id (fun _ h => h) (fun _ _ _ _ h => h) (fun _ h => h) (fun _ h => h) he
theorem Bd.val {p : LP} {B m N : Nat} {t : Tb} {δ : Rat} (h : Bd p B m N t δ) : δ ≠ 0 ∧ IB δ (bnd B p.m) ∧ ∀ i j, i < m → j ≤ N → IB (t.A i j * δ) (bnd B p.m) := by
  obtain ⟨⟨u, ι, κ, h1, h2, h3, h4, h5, h6, h7⟩, hib⟩ := h
  refine ⟨h2.1, ?_, fun i j hi hj => ?_⟩
  · rw [h2.delta h1]
    exact det_ib fun a l ha hl => hib a _ ha (Nat.le_of_lt (h1.bl l hl))
  · rw [h7 i j hi hj, h2.cramer h1 (h3 i hi)]
    refine det_ib fun a l ha hl => hib a _ ha ?_
    split
    · exact h5 j hj
    · exact Nat.le_of_lt (h1.bl l hl)
theorem Bd.gain {p : LP} {B m N Cc : Nat} {t : Tb} {δ : Rat} (h : Bd p B m N t δ) {c : Nat → Rat} (hc : ∀ j, IB (c j) Cc) (hm : m ≤ p.m) {s : Nat} (hs : s ≤ m) (j : Nat) (hj : j ≤ N) :
    IB ((c j - sm s (fun i => c (t.β i) * t.A i j)) * δ) ((p.m + 1) * (Cc * bnd B p.m)) := by
  obtain ⟨h1, h2, h3⟩ := h.val
  have e : (c j - sm s (fun i => c (t.β i) * t.A i j)) * δ = c j * δ + -sm s (fun i => c (t.β i) * (t.A i j * δ)) := by
    have : sm s (fun i => c (t.β i) * (t.A i j * δ)) = sm s (fun i => c (t.β i) * t.A i j) * δ := by
      rw [← sm_mulr]; exact sm_congr fun i _ => by grind
    rw [this]; grind
  rw [e]
  have a1 := (hc j).mul h2
  have a2 := (IB.sm (n := s) (b := Cc * bnd B p.m) fun i hi => (hc (t.β i)).mul (h3 i j (by omega) hj)).neg
  refine (a1.add a2).mono ?_
  have := Nat.mul_le_mul_right (Cc * bnd B p.m) (show s ≤ p.m by omega)
  rw [Nat.succ_mul]; omega
end Go.Proofs.Ytchlpclgkhggeaa
