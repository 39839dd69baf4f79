/- part of the proof -/
import Derived.Test.YtikmepdhpffdoaaGreatTRd
import Derived.Test.YtikmepdhpffdoaaGreatTYf
namespace Go.Proofs.YtikmepdhpffdoaaGreat
open Go Go.RowKit
set_option maxRecDepth 100000
set_option maxHeartbeats 4000000
set_option linter.unusedVariables false
set_option linter.unusedSimpArgs false
theorem Sz.quo {p q : Int} {k : Nat} (hp : p.natAbs ≤ 2 ^ k) (hq : 0 < q) (hq2 : q.natAbs ≤ 2 ^ k) : Sz ((p : Rat) / (q : Rat)) k := by
  refine ⟨p, q.natAbs, ?_, hp, by omega, hq2⟩
  have : ((q.natAbs : Nat) : Rat) = (q : Rat) := by
    rw [show ((q.natAbs : Nat) : Rat) = (((q.natAbs : Nat) : Int) : Rat) from rfl, show ((q.natAbs : Nat) : Int) = q by omega]
  rw [this]
theorem natAbs_mul_le {a b : Int} {k l : Nat} (h : a.natAbs ≤ k) (g : b.natAbs ≤ l) : (a * b).natAbs ≤ k * l := by
  rw [Int.natAbs_mul]; exact Nat.mul_le_mul h g
def qZ (Z : Nat → Nat → Int) (v : Nat → Int) : Int := Z 0 0 * v 0 * v 0 + Z 1 1 * v 1 * v 1 + Z 2 2 * v 2 * v 2 + 2 * Z 1 0 * v 0 * v 1 + 2 * Z 2 0 * v 0 * v 2 + 2 * Z 2 1 * v 1 * v 2
structure SZ (Z : Nat → Nat → Int) : Prop where
  sym : ∀ i j, Z i j = Z j i
  le : ∀ i j, i < 3 → j < 3 → (Z i j).natAbs ≤ 8388608
  pd : ∀ v : Nat → Int, (v 0 ≠ 0 ∨ v 1 ≠ 0 ∨ v 2 ≠ 0) → 0 < qZ Z v
def zmi (Z : Nat → Nat → Int) : Int := Z 1 1 * Z 0 0 - Z 1 0 * Z 1 0
def znu (Z : Nat → Nat → Int) : Int := Z 2 1 * Z 0 0 - Z 2 0 * Z 1 0
def zdt (Z : Nat → Nat → Int) : Int := Z 0 0 * (Z 1 1 * Z 2 2 - Z 2 1 * Z 2 1) - Z 1 0 * (Z 1 0 * Z 2 2 - Z 2 1 * Z 2 0) + Z 2 0 * (Z 1 0 * Z 2 1 - Z 1 1 * Z 2 0)
theorem pos_right {a b : Int} (ha : 0 < a) (h : 0 < a * b) : 0 < b := by
  apply Classical.byContradiction
  intro q
  have := Int.mul_le_mul_of_nonneg_left (show b ≤ 0 by omega) (show 0 ≤ a by omega)
  rw [Int.mul_zero] at this; omega
def tri (a b c : Int) : Nat → Int := fun i => if i = 0 then a else if i = 1 then b else c
theorem SZ.p0 {Z : Nat → Nat → Int} (h : SZ Z) : 0 < Z 0 0 := by
  have := h.pd (tri 1 0 0) (.inl (by decide))
  have e : qZ Z (tri 1 0 0) = Z 0 0 := by simp [qZ, tri]
  rwa [e] at this
theorem SZ.p1 {Z : Nat → Nat → Int} (h : SZ Z) : 0 < zmi Z := by
  have h0 := h.p0
  have := h.pd (tri (-Z 1 0) (Z 0 0) 0) (.inr (.inl (by show Z 0 0 ≠ 0; omega)))
  have e : qZ Z (tri (-Z 1 0) (Z 0 0) 0) = Z 0 0 * zmi Z := by simp [qZ, tri, zmi]; grind
  rw [e] at this
  exact pos_right h0 this
theorem SZ.p2 {Z : Nat → Nat → Int} (h : SZ Z) : 0 < zdt Z := by
  have h1 := h.p1
  have := h.pd (tri (Z 1 0 * Z 2 1 - Z 2 0 * Z 1 1) (Z 2 0 * Z 1 0 - Z 2 1 * Z 0 0) (zmi Z)) (.inr (.inr (by show zmi Z ≠ 0; omega)))
  have e : qZ Z (tri (Z 1 0 * Z 2 1 - Z 2 0 * Z 1 1) (Z 2 0 * Z 1 0 - Z 2 1 * Z 0 0) (zmi Z)) = zmi Z * zdt Z := by simp [qZ, tri, zmi, zdt]; grind
  rw [e] at this
  exact pos_right h1 this
theorem SZ.b1 {Z : Nat → Nat → Int} (h : SZ Z) : (zmi Z).natAbs ≤ 2 ^ 47 ∧ (znu Z).natAbs ≤ 2 ^ 47 := by
  have a := natAbs_mul_le (h.le 1 1 (by omega) (by omega)) (h.le 0 0 (by omega) (by omega))
  have b := natAbs_mul_le (h.le 1 0 (by omega) (by omega)) (h.le 1 0 (by omega) (by omega))
  have c := natAbs_mul_le (h.le 2 1 (by omega) (by omega)) (h.le 0 0 (by omega) (by omega))
  have d := natAbs_mul_le (h.le 2 0 (by omega) (by omega)) (h.le 1 0 (by omega) (by omega))
  unfold zmi znu
  constructor <;> omega
theorem SZ.b2 {Z : Nat → Nat → Int} (h : SZ Z) : (zdt Z).natAbs ≤ 2 ^ 72 := by
  have p : ∀ i j k l, i < 3 → j < 3 → k < 3 → l < 3 → (Z i j * Z k l).natAbs ≤ 70368744177664 := fun i j k l h1 h2 h3 h4 => natAbs_mul_le (h.le i j h1 h2) (h.le k l h3 h4)
  have two : ∀ x y : Int, x.natAbs ≤ 70368744177664 → y.natAbs ≤ 70368744177664 → (x - y).natAbs ≤ 140737488355328 := fun x y h1 h2 => by omega
  have t1 := natAbs_mul_le (h.le 0 0 (by omega) (by omega)) (two _ _ (p 1 1 2 2 (by omega) (by omega) (by omega) (by omega)) (p 2 1 2 1 (by omega) (by omega) (by omega) (by omega)))
  have t2 := natAbs_mul_le (h.le 1 0 (by omega) (by omega)) (two _ _ (p 1 0 2 2 (by omega) (by omega) (by omega) (by omega)) (p 2 1 2 0 (by omega) (by omega) (by omega) (by omega)))
  have t3 := natAbs_mul_le (h.le 2 0 (by omega) (by omega)) (two _ _ (p 1 0 2 1 (by omega) (by omega) (by omega) (by omega)) (p 1 1 2 0 (by omega) (by omega) (by omega) (by omega)))
  unfold zdt
  omega
theorem cast_ne {z : Int} (h : 0 < z) : (z : Rat) ≠ 0 := by
  intro q
  have e : z = 0 := by exact_mod_cast q
  omega
theorem rat_pos {p q : Int} (hp : 0 < p) (hq : 0 < q) : 0 < (p : Rat) / (q : Rat) := by
  have h1 : (0 : Rat) < (p : Rat) := by exact_mod_cast hp
  have h2 : (0 : Rat) < (q : Rat) := by exact_mod_cast hq
  rw [Rat.div_def]
  exact Rat.mul_pos h1 (Rat.inv_pos.2 h2)
theorem FV.pos {x : FQ} {r : Rat} {k : Nat} (h : FV x r k) (hr : 0 < r) : 0 < x.num := by
  rw [h.numv]
  have h1 : 0 ≤ r.num := Rat.num_nonneg.2 (by grind)
  have h2 : r.num ≠ 0 := fun q => by rw [Rat.num_eq_zero] at q; grind
  omega
def zL (Z : Nat → Nat → Int) (i j : Nat) : Rat := if i = j then 1 else if j = 0 then (Z i 0 : Rat) / (Z 0 0 : Rat) else if i = 2 ∧ j = 1 then (znu Z : Rat) / (zmi Z : Rat) else 0
def zLL (Z : Nat → Nat → Int) (i j : Nat) : Rat := if i < j then 0 else zL Z i j
def zD (Z : Nat → Nat → Int) (j : Nat) : Rat := if j = 0 then (Z 0 0 : Rat) / ((3600 : Int) : Rat) else if j = 1 then (zmi Z : Rat) / ((3600 * Z 0 0 : Int) : Rat) else (zdt Z : Rat) / ((3600 * zmi Z : Int) : Rat)
theorem zLDL {Z : Nat → Nat → Int} (h : SZ Z) (i j : Nat) (hi : i < 3) (hj : j < 3) : dotR 3 (fun t => zLL Z i t * zD Z t) (fun t => zLL Z j t) = (Z i j : Rat) / 3600 := by
  have h0 := cast_ne h.p0
  have h1 := cast_ne h.p1
  have e1 : (zmi Z : Rat) = (Z 1 1 : Rat) * (Z 0 0 : Rat) - (Z 1 0 : Rat) * (Z 1 0 : Rat) := by unfold zmi; push_cast; rfl
  have e2 : (znu Z : Rat) = (Z 2 1 : Rat) * (Z 0 0 : Rat) - (Z 2 0 : Rat) * (Z 1 0 : Rat) := by unfold znu; push_cast; rfl
  have e3 : (zdt Z : Rat) = (Z 0 0 : Rat) * ((Z 1 1 : Rat) * (Z 2 2 : Rat) - (Z 2 1 : Rat) * (Z 2 1 : Rat)) - (Z 1 0 : Rat) * ((Z 1 0 : Rat) * (Z 2 2 : Rat) - (Z 2 1 : Rat) * (Z 2 0 : Rat)) + (Z 2 0 : Rat) * ((Z 1 0 : Rat) * (Z 2 1 : Rat) - (Z 1 1 : Rat) * (Z 2 0 : Rat)) := by unfold zdt; push_cast; rfl
  have s1 := h.sym 0 1
  have s2 := h.sym 0 2
  have s3 := h.sym 1 2
  rw [dot3]
  have i1 : ((3600 : Rat) * (Z 0 0 : Rat))⁻¹ = (3600 : Rat)⁻¹ * (Z 0 0 : Rat)⁻¹ := by grind
  have i2 : ((3600 : Rat) * (zmi Z : Rat))⁻¹ = (3600 : Rat)⁻¹ * (zmi Z : Rat)⁻¹ := by grind
  have hA : (Z 0 0 : Rat) * (Z 0 0 : Rat)⁻¹ = 1 := Rat.mul_inv_cancel _ h0
  have hM : (zmi Z : Rat) * (zmi Z : Rat)⁻¹ = 1 := Rat.mul_inv_cancel _ h1
  obtain rfl | rfl | rfl : i = 0 ∨ i = 1 ∨ i = 2 := by omega
  all_goals (obtain rfl | rfl | rfl : j = 0 ∨ j = 1 ∨ j = 2 := by omega)
  all_goals (simp only [zLL, zL, zD, Nat.reduceLT, Nat.reduceEqDiff, if_true, if_false, and_self, and_true, and_false, true_and, false_and, reduceIte]; push_cast; simp only [Rat.div_def, i1, i2, s1, s2, s3]; generalize (3600 : Rat)⁻¹ = C at *; generalize (Z 0 0 : Rat)⁻¹ = A at *; generalize (zmi Z : Rat)⁻¹ = M at *; generalize (zmi Z : Rat) = mi at *; generalize (znu Z : Rat) = nu at *; generalize (zdt Z : Rat) = dt at *; generalize (Z 0 0 : Rat) = z00 at *; generalize (Z 1 0 : Rat) = z10 at *; generalize (Z 1 1 : Rat) = z11 at *; generalize (Z 2 0 : Rat) = z20 at *; generalize (Z 2 1 : Rat) = z21 at *; generalize (Z 2 2 : Rat) = z22 at *; clear h0 h1 i1 i2; grind)
theorem key_y1 {d0 d1 d2 l21 l20 l10 t : Rat} (w : l20 * d0 * l10 + l21 * d1 * 1 + 1 * d2 * 0 = t) : t - l20 * l10 * d0 = l21 * d1 := by rw [← w]; grind
theorem key_x2 {d0 d1 d2 l21 l20 t : Rat} (w : l20 * d0 * l20 + l21 * d1 * l21 + 1 * d2 * 1 = t) : t - l20 * l20 * d0 - l21 * l21 * d1 = d2 := by rw [← w]; grind
theorem fac_facts {m : MD} (hg : m.Good 3 3) {Z : Nat → Nat → Int} (hZ : SZ Z) (hA : ∀ i j, i < 3 → j < 3 → FV (m.at 3 i j) ((Z i j : Rat) / 3600) 23) (hy : symM m = true) :
    ∃ L D, facR m = (⟨3, 3, (gridL 3 3 L).map qd⟩, rowQ 3 D, true) ∧ (∀ i j, i < 3 → j < 3 → FV (L i j) (zLL Z i j) 47) ∧ ∀ j, j < 3 → FV (D j) (zD Z j) 72 ∧ 0 < zD Z j := by
  have h0 := cast_ne hZ.p0
  have h1 := cast_ne hZ.p1
  have e1 : (zmi Z : Rat) = (Z 1 1 : Rat) * (Z 0 0 : Rat) - (Z 1 0 : Rat) * (Z 1 0 : Rat) := by unfold zmi; push_cast; rfl
  have e2 : (znu Z : Rat) = (Z 2 1 : Rat) * (Z 0 0 : Rat) - (Z 2 0 : Rat) * (Z 1 0 : Rat) := by unfold znu; push_cast; rfl
  have e3 : (zdt Z : Rat) = (Z 0 0 : Rat) * ((Z 1 1 : Rat) * (Z 2 2 : Rat) - (Z 2 1 : Rat) * (Z 2 1 : Rat)) - (Z 1 0 : Rat) * ((Z 1 0 : Rat) * (Z 2 2 : Rat) - (Z 2 1 : Rat) * (Z 2 0 : Rat)) + (Z 2 0 : Rat) * ((Z 1 0 : Rat) * (Z 2 1 : Rat) - (Z 1 1 : Rat) * (Z 2 0 : Rat)) := by unfold zdt; push_cast; rfl
  have b0 := hZ.le 0 0 (by omega) (by omega)
  have b1 := hZ.b1
  have b2 := hZ.b2
  have p0 := hZ.p0
  have p1 := hZ.p1
  have p2 := hZ.p2
  have d0p : 0 < zD Z 0 := rat_pos p0 (by decide)
  have d1p : 0 < zD Z 1 := rat_pos p1 (show (0 : Int) < 3600 * Z 0 0 by omega)
  have d2p : 0 < zD Z 2 := rat_pos p2 (show (0 : Int) < 3600 * zmi Z by omega)
  have s0 : Sz (zD Z 0) 23 := Sz.quo b0 (by decide) (by decide)
  have s1 : Sz (zD Z 1) 47 := Sz.quo b1.1 (by omega) (by omega)
  have s2 : Sz (zD Z 2) 72 := Sz.quo b2 (by omega) (by have := b1.1; omega)
  have sl : ∀ i, i < 3 → Sz ((Z i 0 : Rat) / (Z 0 0 : Rat)) 23 := fun i hi => Sz.quo (hZ.le i 0 hi (by omega)) p0 b0
  have sn : Sz ((znu Z : Rat) / (zmi Z : Rat)) 47 := Sz.quo b1.2 p1 b1.1
  obtain ⟨N, hN⟩ : ∃ N, N = m.at 3 := ⟨_, rfl⟩
  rw [← hN] at hA
  obtain ⟨B, hB⟩ : ∃ B : Nat → FQ, B = fun _ => FQ.bad := ⟨_, rfl⟩
  -- the first column
  have x0 : FV (fcX N idM B 0) (zD Z 0) 23 := (hA 0 0 (by omega) (by omega)).val (by simp [zD]) s0
  obtain ⟨L1, hL1⟩ : ∃ L1, L1 = fcL N idM B 0 := ⟨_, rfl⟩
  obtain ⟨D1, hD1⟩ : ∃ D1, D1 = fcD N idM B 0 := ⟨_, rfl⟩
  have l0 : ∀ i, 0 < i → i < 3 → FV (L1 i 0) ((Z i 0 : Rat) / (Z 0 0 : Rat)) 23 := fun i h hi => by
    rw [hL1]; unfold fcL
    rw [if_pos ⟨rfl, h⟩]
    exact ((hA i 0 hi (by omega)).div x0 (by intro q; rw [q] at d0p; exact absurd d0p (by decide)) (by omega)).val (by simp only [zD, if_true]; push_cast; grind) (sl i hi)
  have l0' : ∀ i j, ¬ (j = 0 ∧ 0 < i) → L1 i j = idM i j := fun i j h => by rw [hL1]; unfold fcL; rw [if_neg h]
  have dd0 : D1 0 = fcX N idM B 0 := by rw [hD1]; unfold fcD; rw [if_pos rfl]
  have st0 : facStep 3 N ⟨idM, B⟩ 0 = some ⟨L1, D1⟩ := by
    rw [hL1, hD1]; unfold facStep
    exact if_pos ⟨x0.good, x0.pos d0p, fun i hi h => by rw [← hL1]; exact (l0 i h hi).good⟩
  -- the second
  have vd0 : FV (D1 0) (zD Z 0) 23 := by rw [dd0]; exact x0
  have x1 : FV (fcX N L1 D1 1) (zD Z 1) 47 := by
    have q : FV ((N 1 1).sub (((L1 1 0).mul (L1 1 0)).mul (D1 0))) _ _ := (hA 1 1 (by omega) (by omega)).sub (((l0 1 (by omega) (by omega)).mul (l0 1 (by omega) (by omega)) (by omega)).mul vd0 (by omega)) (by omega)
    exact q.val (by simp only [zD, Nat.reduceEqDiff, if_true, if_false]; rw [e1]; push_cast; grind) s1
  have y1 : FV (restQ N L1 D1 2 1 1) (((znu Z : Rat) / (zmi Z : Rat)) * zD Z 1) (23 + (23 + 23 + 23) + 1) := by
    have q : FV ((N 2 1).sub (((L1 2 0).mul (L1 1 0)).mul (D1 0))) _ _ := (hA 2 1 (by omega) (by omega)).sub (((l0 2 (by omega) (by omega)).mul (l0 1 (by omega) (by omega)) (by omega)).mul vd0 (by omega)) (by omega)
    have e : (Z 2 1 : Rat) / 3600 - (Z 2 0 : Rat) / (Z 0 0 : Rat) * ((Z 1 0 : Rat) / (Z 0 0 : Rat)) * zD Z 0 = ((znu Z : Rat) / (zmi Z : Rat)) * zD Z 1 := by
      have w := zLDL hZ 2 1 (by omega) (by omega)
      rw [dot3] at w
      simp only [zLL, zL, Nat.reduceLT, Nat.reduceEqDiff, if_true, if_false, and_self, and_true, and_false, true_and, false_and, reduceIte] at w
      exact key_y1 w
    rw [← e]; exact q
  obtain ⟨L2, hL2⟩ : ∃ L2, L2 = fcL N L1 D1 1 := ⟨_, rfl⟩
  obtain ⟨D2, hD2⟩ : ∃ D2, D2 = fcD N L1 D1 1 := ⟨_, rfl⟩
  have l1 : FV (L2 2 1) ((znu Z : Rat) / (zmi Z : Rat)) 47 := by
    rw [hL2]; unfold fcL
    rw [if_pos ⟨rfl, by omega⟩]
    have hne : zD Z 1 ≠ 0 := by intro q; rw [q] at d1p; exact absurd d1p (by decide)
    exact (y1.div x1 hne (by omega)).val (by rw [Rat.div_def, Rat.mul_assoc, Rat.mul_inv_cancel _ hne, Rat.mul_one]) sn
  have l1' : ∀ i j, ¬ (j = 1 ∧ 1 < i) → L2 i j = L1 i j := fun i j h => by rw [hL2]; unfold fcL; rw [if_neg h]
  have d20 : D2 0 = D1 0 := by rw [hD2]; unfold fcD; rw [if_neg (by omega)]
  have d21 : D2 1 = fcX N L1 D1 1 := by rw [hD2]; unfold fcD; rw [if_pos rfl]
  have st1 : facStep 3 N ⟨L1, D1⟩ 1 = some ⟨L2, D2⟩ := by
    rw [hL2, hD2]; unfold facStep
    refine if_pos ⟨x1.good, x1.pos d1p, fun i hi h => ?_⟩
    obtain rfl : i = 2 := by omega
    rw [← hL2]; exact l1.good
  -- the third
  have l20 : FV (L2 2 0) ((Z 2 0 : Rat) / (Z 0 0 : Rat)) 23 := by rw [l1' 2 0 (by omega)]; exact l0 2 (by omega) (by omega)
  have x2 : FV (fcX N L2 D2 2) (zD Z 2) 72 := by
    have v0 : FV (D2 0) (zD Z 0) 23 := by rw [d20]; exact vd0
    have v1 : FV (D2 1) (zD Z 1) 47 := by rw [d21]; exact x1
    have q : FV (((N 2 2).sub (((L2 2 0).mul (L2 2 0)).mul (D2 0))).sub (((L2 2 1).mul (L2 2 1)).mul (D2 1))) _ _ := (((hA 2 2 (by omega) (by omega)).sub (((l20.mul l20 (by omega)).mul v0 (by omega))) (by omega)).sub (((l1.mul l1 (by omega)).mul v1 (by omega))) (by omega))
    have w := zLDL hZ 2 2 (by omega) (by omega)
    rw [dot3] at w
    simp only [zLL, zL, Nat.reduceLT, Nat.reduceEqDiff, if_true, if_false, and_self, and_true, and_false, true_and, false_and, reduceIte] at w
    exact q.val (key_x2 w) s2
  obtain ⟨L3, hL3⟩ : ∃ L3, L3 = fcL N L2 D2 2 := ⟨_, rfl⟩
  obtain ⟨D3, hD3⟩ : ∃ D3, D3 = fcD N L2 D2 2 := ⟨_, rfl⟩
  have st2 : facStep 3 N ⟨L2, D2⟩ 2 = some ⟨L3, D3⟩ := by
    rw [hL3, hD3]; unfold facStep
    exact if_pos ⟨x2.good, x2.pos d2p, fun i hi h => by omega⟩
  have l3' : ∀ i j, i < 3 → L3 i j = L2 i j := fun i j h => by rw [hL3]; unfold fcL; rw [if_neg (by omega)]
  have hto : facTo 3 N 3 = some ⟨L3, D3⟩ := by
    show (match (match (match (some ⟨idM, fun _ => FQ.bad⟩ : Option FS) with | none => none | some s => facStep 3 N s 0) with | none => none | some s => facStep 3 N s 1) with | none => none | some s => facStep 3 N s 2) = _
    rw [← hB]
    show (match (match facStep 3 N ⟨idM, B⟩ 0 with | none => none | some s => facStep 3 N s 1) with | none => none | some s => facStep 3 N s 2) = _
    rw [st0]
    show (match facStep 3 N ⟨L1, D1⟩ 1 with | none => none | some s => facStep 3 N s 2) = _
    rw [st1]
    exact st2
  refine ⟨L3, D3, ?_, fun i j hi hj => ?_, fun j hj => ?_⟩
  · unfold facR
    rw [if_pos hy, hg.er]
    show facN 3 (m.at 3) = _
    rw [← hN, facN_some hto]; rfl
  · rw [l3' i j hi]
    have z : ∀ i j, FV (idM i j) (if i = j then 1 else 0) 47 := fun i j => (idM_val i j).mono (by omega)
    obtain rfl | rfl | rfl : i = 0 ∨ i = 1 ∨ i = 2 := by omega
    all_goals (obtain rfl | rfl | rfl : j = 0 ∨ j = 1 ∨ j = 2 := by omega)
    · rw [l1' 0 0 (by omega), l0' 0 0 (by omega)]; simpa [zLL, zL] using z 0 0
    · rw [l1' 0 1 (by omega), l0' 0 1 (by omega)]; simpa [zLL, zL] using z 0 1
    · rw [l1' 0 2 (by omega), l0' 0 2 (by omega)]; simpa [zLL, zL] using z 0 2
    · rw [l1' 1 0 (by omega)]; simpa [zLL, zL] using (l0 1 (by omega) (by omega)).mono (show 23 ≤ 47 by omega)
    · rw [l1' 1 1 (by omega), l0' 1 1 (by omega)]; simpa [zLL, zL] using z 1 1
    · rw [l1' 1 2 (by omega), l0' 1 2 (by omega)]; simpa [zLL, zL] using z 1 2
    · simpa [zLL, zL] using l20.mono (show 23 ≤ 47 by omega)
    · simpa [zLL, zL] using l1
    · rw [l1' 2 2 (by omega), l0' 2 2 (by omega)]; simpa [zLL, zL] using z 2 2
  · obtain rfl | rfl | rfl : j = 0 ∨ j = 1 ∨ j = 2 := by omega
    · refine ⟨?_, d0p⟩
      rw [show D3 0 = D2 0 by rw [hD3]; unfold fcD; rw [if_neg (by omega)], d20]; exact vd0.mono (by omega)
    · refine ⟨?_, d1p⟩
      rw [show D3 1 = D2 1 by rw [hD3]; unfold fcD; rw [if_neg (by omega)], d21]; exact x1.mono (by omega)
    · refine ⟨?_, d2p⟩
      rw [show D3 2 = fcX N L2 D2 2 by rw [hD3]; unfold fcD; rw [if_pos rfl]]; exact x2
end Go.Proofs.YtikmepdhpffdoaaGreat
