/- part of the proof -/
import Derived.Test.YtchlpclgkhggeaaTTj
import Derived.Test.YtchlpclgkhggeaaTIa
import Derived.Test.YtchlpclgkhggeaaTTd
namespace Go.Proofs.Ytchlpclgkhggeaa
open Go Go.RowKit
set_option maxRecDepth 100000
set_option maxHeartbeats 4000000
set_option linter.unusedVariables false
set_option linter.unusedSimpArgs false
structure PD (p : Prg) (r c : Nat) : Prop where
  r20 : r ≤ 20
  c40 : c ≤ 40
  m : p.lp.m = r
  n : p.lp.n = c
  a : ∀ i j, i < r → j < c → (rowI p i).getD j 0 = p.a.getD (i * c + j) 0 ∧ -100 ≤ p.a.getD (i * c + j) 0 ∧ p.a.getD (i * c + j) 0 ≤ 100
  b : ∀ i, i < r → -100 ≤ p.b.getD i 0 ∧ p.b.getD i 0 ≤ 100
  cc : ∀ j, -100 ≤ p.c.getD j 0 ∧ p.c.getD j 0 ≤ 100
  cn : p.c.getD c 0 = 0
  A : ∀ i j, p.lp.A i j = ((p.a.getD (i * c + j) 0 : Int) : Rat)
  B : ∀ i, p.lp.b i = ((p.b.getD i 0 : Int) : Rat)
  C : ∀ j, p.lp.c j = ((p.c.getD j 0 : Int) : Rat)
theorem ix_lt' {i j r c : Nat} (hi : i < r) (hj : j < c) : i * c + j < r * c := by
  have : (i + 1) * c ≤ r * c := Nat.mul_le_mul_right c (by omega)
  rw [Nat.add_mul, Nat.one_mul] at this; omega
theorem PD.mk' {p : Prg} {r c : Nat} (ho : okP' p = true) (hr : p.rows = r) (hc : p.cols = c) : PD p r c := by
  have hF := fun i => @rowI_facts p ho i
  obtain ⟨⟨r1, r2⟩, ⟨c1, c2⟩, hal, hbl, hcl, ia, ib, ic⟩ := okP_spec ho
  have hn : p.cols.toNat = c := by omega
  have hL : p.a.length = r * c := by rw [hr, hc] at hal; exact_mod_cast hal
  refine ⟨by omega, by omega, by show p.rows.toNat = r; omega, hn, fun i j hi hj => ?_, fun i hi => inB_get ib (by omega), fun j => ?_, ?_, fun i j => ?_, fun _ => rfl, fun _ => rfl⟩
  · obtain ⟨c', e1, e2, e3, e4, e5, e6⟩ := hF i (by omega)
    have hcc : c' = c := by omega
    subst hcc
    refine ⟨?_, inB_get ia (by rw [hL]; exact ix_lt' hi hj)⟩
    rw [e6, List.getD_eq_getElem?_getD, List.getElem?_take_of_lt hj, List.getElem?_drop, ← List.getD_eq_getElem?_getD]
  · by_cases hj : j < p.c.length
    · exact inB_get ic hj
    · rw [List.getD_eq_getElem?_getD, List.getElem?_eq_none (by omega)]; exact ⟨by decide, by decide⟩
  · rw [List.getD_eq_getElem?_getD, List.getElem?_eq_none (by omega)]; rfl
  · show ((p.a.getD (i * p.cols.toNat + j) 0 : Int) : Rat) = _
    rw [hn]
theorem PD.sgn {p : Prg} {r c : Nat} (h : PD p r c) (i : Nat) : sg p.lp i = ((sgR p i : Int) : Rat) := by
  unfold sg sgR
  rw [h.B]
  by_cases e : p.b.getD i 0 < 0
  · rw [if_pos e, if_pos (by exact_mod_cast e)]; rfl
  · rw [if_neg e, if_neg (fun q => e (by exact_mod_cast q))]; rfl
theorem sgR_abs {p : Prg} {i : Nat} : sgR p i = 1 ∨ sgR p i = -1 := by unfold sgR; split <;> simp
theorem PD.int {p : Prg} {r c : Nat} (h : PD p r c) {i j : Nat} (hi : i < r) (hj : j ≤ c + r) : ∃ z : Int, fstM p r c i j = FQ.ofInt z ∧ (ph1 p.lp).A i j = (z : Rat) ∧ z.natAbs ≤ 100 := by
  unfold fstM
  show ∃ z : Int, _ ∧ (if j < p.lp.n then sg p.lp i * p.lp.A i j else if j < p.lp.n + p.lp.m then (if j = p.lp.n + i then (1 : Rat) else 0) else sg p.lp i * p.lp.b i) = _ ∧ _
  rw [h.n, h.m]
  have hs := sgR_abs (p := p) (i := i)
  by_cases h1 : j < c
  · obtain ⟨a1, a2, a3⟩ := h.a i j hi h1
    refine ⟨sgR p i * p.a.getD (i * c + j) 0, by rw [if_pos h1, a1], by rw [if_pos h1, h.sgn, h.A, Rat.intCast_mul], ?_⟩
    rcases hs with e | e <;> rw [e] <;> omega
  · by_cases h2 : j < c + r
    · refine ⟨if j - c = i then 1 else 0, by rw [if_neg h1, if_pos h2], ?_, by split <;> decide⟩
      rw [if_neg h1, if_pos h2]
      by_cases e : j = c + i
      · rw [if_pos e, if_pos (by omega)]; rfl
      · rw [if_neg e, if_neg (by omega)]; rfl
    · obtain ⟨b1, b2⟩ := h.b i hi
      refine ⟨sgR p i * p.b.getD i 0, by rw [if_neg h1, if_neg h2], by rw [if_neg h1, if_neg h2, h.sgn, h.B, Rat.intCast_mul], ?_⟩
      rcases hs with e | e <;> rw [e] <;> omega
theorem le_pow {a k : Nat} (h : a ≤ 100) (hk : 7 ≤ k) : a ≤ 2 ^ k := Nat.le_trans (Nat.le_trans h (by decide : 100 ≤ 2 ^ 7)) (Nat.pow_le_pow_right (by decide) hk)
theorem PD.val {p : Prg} {r c : Nat} (h : PD p r c) {i j : Nat} (hi : i < r) (hj : j ≤ c + r) {k : Nat} (hk : 7 ≤ k) (hk2 : k ≤ 696) : FV (fstM p r c i j) ((ph1 p.lp).A i j) k := by
  obtain ⟨z, e1, e2, e3⟩ := h.int hi hj
  rw [e1, e2]
  exact FV.ofInt (le_pow e3 hk) hk2
theorem PD.bd {p : Prg} {r c : Nat} (h : PD p r c) : Bd p.lp 100 p.lp.m (p.lp.n + p.lp.m) (ph1 p.lp) 1 := Bd.first fun i j hi hj => by
  obtain ⟨z, _, e2, e3⟩ := h.int (i := i) (j := j) (by rw [← h.m]; exact hi) (by rw [← h.m, ← h.n]; exact hj)
  exact ⟨z, e2, e3⟩
theorem PD.cost {p : Prg} {r c : Nat} (h : PD p r c) {j : Nat} (hj : j < c ∨ j = c + r) : ∀ i, i ≤ r → FV (fstC p r c i j) (sm i fun a => (ph1 p.lp).A a j) (8 * i + 7)
  | 0, _ => FV.ofInt (z := 0) (by decide) (by omega)
  | i + 1, hi => by
    have ih := PD.cost h hj i (by omega)
    have := ih.add (h.val (i := i) (j := j) (k := 7) (by omega) (by omega) (by omega) (by omega)) (by have := h.r20; omega)
    show FV (if j < c ∨ j = c + r then (fstC p r c i j).add (fstM p r c i j) else fstC p r c i j) (sm i _ + _) _
    rw [if_pos hj]
    exact this.mono (by omega)
theorem PD.cost0 {p : Prg} {r c : Nat} {j : Nat} (hj : ¬ (j < c ∨ j = c + r)) : ∀ i, fstC p r c i j = FQ.ofInt 0
  | 0 => rfl
  | i + 1 => by
    show (if j < c ∨ j = c + r then _ else _ : FQ) = _
    rw [if_neg hj]; exact PD.cost0 hj i
theorem c1_art {p : LP} {i : Nat} (hi : i < p.m) : c1 p (p.n + i) = -1 := by unfold c1; rw [if_neg (by omega), if_pos (by omega)]
theorem PD.sr {p : Prg} {r c : Nat} (h : PD p r c) : SR p.lp (c1 p.lp) r (c + r) (fstS p r c) (ph1 p.lp) := by
  refine ⟨fun i hi => by show c + i = p.lp.n + i; rw [h.n], fun i j hi hj => h.val hi hj (by omega) (by omega), fun j hj => ?_⟩
  have hg : gain r (ph1 p.lp) (c1 p.lp) j = c1 p.lp j + sm r (fun a => (ph1 p.lp).A a j) := by
    unfold gain
    rw [sm_congr (g := fun a => -(ph1 p.lp).A a j) fun a ha => by
      show c1 p.lp (p.lp.n + a) * _ = _
      rw [c1_art (by rw [h.m]; exact ha)]; grind, sm_neg]
    grind
  rw [hg]
  by_cases hjc : j < c ∨ j = c + r
  · have := (h.cost hjc r (Nat.le_refl _)).mono (l := 207) (by have := h.r20; omega)
    have hc0 : c1 p.lp j = 0 := by
      unfold c1
      rw [h.n, h.m]
      rcases hjc with q | q
      · rw [if_pos q]
      · rw [if_neg (by omega), if_neg (by omega)]
    rw [hc0]
    exact this.val (by grind) (by
      have e : (0 : Rat) + sm r (fun a => (ph1 p.lp).A a j) = sm r (fun a => (ph1 p.lp).A a j) := by grind
      rw [e]; exact this.s)
  · show FV (fstC p r c r j) _ 207
    rw [PD.cost0 hjc]
    have h1 : c ≤ j ∧ j < c + r := by omega
    have hc0 : c1 p.lp j = -1 := by unfold c1; rw [h.n, h.m, if_neg (by omega), if_pos (by omega)]
    have hs : sm r (fun a => (ph1 p.lp).A a j) = 1 := by
      rw [sm_one (k := j - c) (by omega) fun a ha hne => ?_]
      · show (if j < p.lp.n then _ else if j < p.lp.n + p.lp.m then (if j = p.lp.n + (j - c) then (1 : Rat) else 0) else _) = 1
        rw [h.n, h.m, if_neg (by omega), if_pos (by omega), if_pos (by omega)]
      · show (if j < p.lp.n then _ else if j < p.lp.n + p.lp.m then (if j = p.lp.n + a then (1 : Rat) else 0) else _) = 0
        rw [h.n, h.m, if_neg (by omega), if_pos (by omega), if_neg (by omega)]
    rw [hc0, hs]
    exact (FV.ofInt (z := 0) (k := 207) (by decide) (by omega)).val (by show ((0 : Int) : Rat) = _; grind) (by
      have e : (-1 : Rat) + 1 = ((0 : Int) : Rat) := by grind
      rw [e]; exact Sz.int (by decide))
theorem PD.run1 {p : Prg} {r c : Nat} (h : PD p r c) : RunS p.lp (c1 p.lp) r (c + r) (fstS p r c) (ph1 p.lp) := by
  have h1 := ph1_tab p.lp
  have h2 := ph1_fea p.lp
  have h3 := h.bd
  rw [h.m, h.n] at h1 h2 h3
  exact ⟨h.sr, h1, h2, _, h3⟩
end Go.Proofs.Ytchlpclgkhggeaa
