/- part of the proof -/
import Derived.Test.YtgkimfncegbeaaaTXc
namespace Go.Proofs.Ytgkimfncegbeaaa
open Go Go.RowKit
set_option maxRecDepth 100000
set_option linter.unusedVariables false
set_option linter.unusedSimpArgs false
def Sz (r : Rat) (k : Nat) : Prop := ∃ (a : Int) (d : Nat), r = (a : Rat) / (d : Rat) ∧ a.natAbs ≤ 2 ^ k ∧ 0 < d ∧ d ≤ 2 ^ k
theorem natc_ne {d : Nat} (h : 0 < d) : (d : Rat) ≠ 0 := fun q => by have := Rat.natCast_eq_zero_iff.1 q; omega
theorem Sz.nd {r : Rat} {k : Nat} (h : Sz r k) : r.num.natAbs ≤ 2 ^ k ∧ r.den ≤ 2 ^ k := by
  obtain ⟨a, d, e, h1, h2, h3⟩ := h
  have e2 : mkRat a d = ⟨r.num, r.den, r.den_nz, r.reduced⟩ := by rw [Rat.mkRat_eq_div, ← e]
  obtain ⟨m, hm, p1, p2⟩ := Rat.mkRat_num_den (by omega) e2
  have hm1 : 1 ≤ m := by omega
  constructor
  · rw [p1, Int.natAbs_mul] at h1
    have : r.num.natAbs * 1 ≤ r.num.natAbs * m := Nat.mul_le_mul_left _ hm1
    simp at h1; omega
  · rw [p2] at h3
    have : r.den * 1 ≤ r.den * m := Nat.mul_le_mul_left _ hm1
    omega
theorem Sz.mono {r : Rat} {k l : Nat} (h : Sz r k) (hl : k ≤ l) : Sz r l := by
  obtain ⟨a, d, e, h1, h2, h3⟩ := h
  have := Nat.pow_le_pow_right (show 0 < 2 by omega) hl
  exact ⟨a, d, e, by omega, h2, by omega⟩
theorem Sz.int {z : Int} {k : Nat} (h : z.natAbs ≤ 2 ^ k) : Sz (z : Rat) k := ⟨z, 1, by grind, h, by omega, Nat.one_le_two_pow⟩
theorem Sz.mul {r s : Rat} {k l : Nat} (h : Sz r k) (g : Sz s l) : Sz (r * s) (k + l) := by
  obtain ⟨a, d, e, h1, h2, h3⟩ := h
  obtain ⟨b, c, f, g1, g2, g3⟩ := g
  have hd := natc_ne h2
  have hc := natc_ne g2
  refine ⟨a * b, d * c, ?_, ?_, Nat.mul_pos h2 g2, ?_⟩
  · rw [e, f]; push_cast; grind
  · rw [Int.natAbs_mul, Nat.pow_add]; exact Nat.mul_le_mul h1 g1
  · rw [Nat.pow_add]; exact Nat.mul_le_mul h3 g3
theorem Sz.neg {r : Rat} {k : Nat} (h : Sz r k) : Sz (-r) k := by
  obtain ⟨a, d, e, h1, h2, h3⟩ := h
  have hd := natc_ne h2
  exact ⟨-a, d, by rw [e]; push_cast; grind, by omega, h2, h3⟩
theorem Sz.add {r s : Rat} {k l : Nat} (h : Sz r k) (g : Sz s l) : Sz (r + s) (k + l + 1) := by
  obtain ⟨a, d, e, h1, h2, h3⟩ := h
  obtain ⟨b, c, f, g1, g2, g3⟩ := g
  have hd := natc_ne h2
  have hc := natc_ne g2
  refine ⟨a * c + b * d, d * c, ?_, ?_, Nat.mul_pos h2 g2, ?_⟩
  · rw [e, f]; push_cast; grind
  · have p1 : (a * c).natAbs ≤ 2 ^ (k + l) := by rw [Int.natAbs_mul, Nat.pow_add]; exact Nat.mul_le_mul h1 (by simpa using g3)
    have p2 : (b * d).natAbs ≤ 2 ^ (k + l) := by rw [Int.natAbs_mul, Nat.pow_add, Nat.mul_comm]; exact Nat.mul_le_mul (by simpa using h3) g1
    rw [Nat.pow_succ]; omega
  · have : d * c ≤ 2 ^ (k + l) := by rw [Nat.pow_add]; exact Nat.mul_le_mul h3 g3
    rw [Nat.pow_succ]; omega
theorem Sz.sub {r s : Rat} {k l : Nat} (h : Sz r k) (g : Sz s l) : Sz (r - s) (k + l + 1) := by
  rw [Rat.sub_eq_add_neg]; exact h.add g.neg
theorem Sz.inv {r : Rat} {k : Nat} (h : Sz r k) (h0 : r ≠ 0) : Sz r⁻¹ k := by
  obtain ⟨a, d, e, h1, h2, h3⟩ := h
  have hd := natc_ne h2
  have ha : a ≠ 0 := by rintro rfl; apply h0; rw [e]; grind
  rcases Int.lt_trichotomy a 0 with q | q | q
  · refine ⟨-(d : Int), a.natAbs, ?_, by omega, by omega, h1⟩
    have hn : ((a.natAbs : Nat) : Rat) = -(a : Rat) := by
      rw [show ((a.natAbs : Nat) : Rat) = (((a.natAbs : Nat) : Int) : Rat) from rfl, show ((a.natAbs : Nat) : Int) = -a by omega]; push_cast; rfl
    have ha' : (a : Rat) ≠ 0 := by intro z; exact ha (by exact_mod_cast z)
    rw [e, hn]; push_cast; grind
  · exact absurd q ha
  · refine ⟨(d : Int), a.natAbs, ?_, by omega, by omega, h1⟩
    have hn : ((a.natAbs : Nat) : Rat) = (a : Rat) := by
      rw [show ((a.natAbs : Nat) : Rat) = (((a.natAbs : Nat) : Int) : Rat) from rfl, show ((a.natAbs : Nat) : Int) = a by omega]
    have ha' : (a : Rat) ≠ 0 := by intro z; exact ha (by exact_mod_cast z)
    rw [e, hn]; push_cast; grind
theorem Sz.div {r s : Rat} {k l : Nat} (h : Sz r k) (g : Sz s l) (h0 : s ≠ 0) : Sz (r / s) (k + l) := by
  rw [Rat.div_def]; exact h.mul (g.inv h0)
theorem Sz.fits {r : Rat} {k : Nat} (h : Sz r k) (hk : k ≤ 696) : (lim r.num.natAbs).length ≤ 24 ∧ (lim r.den).length ≤ 24 := by
  obtain ⟨h1, h2⟩ := h.nd
  obtain ⟨a, ha⟩ : ∃ a : Nat, a = 29 := ⟨_, rfl⟩
  have e1 : (2 : Nat) ^ k ≤ 2 ^ (a * 24) := Nat.pow_le_pow_right (by omega) (by omega)
  have e2 : (2 : Nat) ^ (a * 24) < 1000000000 ^ 24 := by
    rw [Nat.pow_mul]; exact Nat.pow_lt_pow_left (by rw [ha]; decide) (by decide)
  have key : ∀ n : Nat, n ≤ 2 ^ k → (lim n).length ≤ 24 := fun n hn => by
    rw [lim_length_le, show (1000000000 : Int) = ((1000000000 : Nat) : Int) from rfl, ← Int.natCast_pow]
    exact Int.ofNat_lt.2 (Nat.lt_of_le_of_lt hn (Nat.lt_of_le_of_lt e1 e2))
  exact ⟨key _ h1, key _ h2⟩
theorem fit_sz {r : Rat} {k : Nat} (h : Sz r k) (hk : k ≤ 696) : (FQ.fit r).1 = some r := by
  unfold FQ.fit
  rw [dif_pos (h.fits hk)]
structure FV (x : FQ) (r : Rat) (k : Nat) : Prop where
  v : x.1 = some r
  s : Sz r k
theorem FV.good {x : FQ} {r : Rat} {k : Nat} (h : FV x r k) : x.good = true := by unfold FQ.good; rw [h.v]; rfl
theorem FV.mono {x : FQ} {r : Rat} {k l : Nat} (h : FV x r k) (hl : k ≤ l) : FV x r l := ⟨h.v, h.s.mono hl⟩
theorem FV.num {x : FQ} {r : Rat} {k : Nat} (h : FV x r k) : x.num = 0 ↔ r = 0 := by
  rw [show x.num = r.num by unfold FQ.num; rw [h.v]]
  exact Rat.num_eq_zero
theorem FV.eq {x y : FQ} {r s : Rat} {k l : Nat} (h : FV x r k) (g : FV y s l) (e : r = s) : x = y := FQ.ext (by rw [h.v, g.v, e])
theorem FV.ofInt {z : Int} {k : Nat} (h : z.natAbs ≤ 2 ^ k) (hk : k ≤ 696) : FV (FQ.ofInt z) (z : Rat) k := ⟨fit_sz (Sz.int h) hk, Sz.int h⟩
theorem FV.mul {x y : FQ} {r s : Rat} {k l : Nat} (h : FV x r k) (g : FV y s l) (hk : k + l ≤ 696) : FV (x.mul y) (r * s) (k + l) := by
  have q := h.s.mul g.s
  refine ⟨?_, q⟩
  unfold FQ.mul lift2
  rw [h.v, g.v]
  exact fit_sz q hk
theorem FV.add {x y : FQ} {r s : Rat} {k l : Nat} (h : FV x r k) (g : FV y s l) (hk : k + l + 1 ≤ 696) : FV (x.add y) (r + s) (k + l + 1) := by
  have q := h.s.add g.s
  refine ⟨?_, q⟩
  unfold FQ.add lift2
  rw [h.v, g.v]
  exact fit_sz q hk
theorem FV.sub {x y : FQ} {r s : Rat} {k l : Nat} (h : FV x r k) (g : FV y s l) (hk : k + l + 1 ≤ 696) : FV (x.sub y) (r - s) (k + l + 1) := by
  have q := h.s.sub g.s
  refine ⟨?_, q⟩
  unfold FQ.sub lift2
  rw [h.v, g.v]
  exact fit_sz q hk
theorem FV.div {x y : FQ} {r s : Rat} {k l : Nat} (h : FV x r k) (g : FV y s l) (h0 : s ≠ 0) (hk : k + l ≤ 696) : FV (x.div y) (r / s) (k + l) := by
  have q := h.s.div g.s h0
  refine ⟨?_, q⟩
  unfold FQ.div
  rw [h.v, g.v]
  simp only
  rw [if_neg h0]
  exact fit_sz q hk
theorem FV.neg {x : FQ} {r : Rat} {k : Nat} (h : FV x r k) : FV x.neg (-r) k := by
  refine ⟨?_, h.s.neg⟩
  show Option.map (fun x => -x) x.1 = _
  rw [h.v]; rfl
theorem FV.val {x : FQ} {r s : Rat} {k l : Nat} (h : FV x r k) (e : r = s) (g : Sz s l) : FV x s l := ⟨by rw [h.v, e], g⟩
end Go.Proofs.Ytgkimfncegbeaaa
