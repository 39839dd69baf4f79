/- part of the proof -/
import Derived.Test.YtikmepdhpffdoaaGreatTMx
namespace Go.Proofs.YtikmepdhpffdoaaGreat
open Go Go.RowKit
set_option maxRecDepth 100000
set_option maxHeartbeats 4000000
set_option linter.unusedVariables false
set_option linter.unusedSimpArgs false
noncomputable def symP (l : List Int) (t i : Nat) : Rat := (drawM l 0 3 3 t i).val
def symB (l : List Int) (i : Nat) : Int := 1 + ((nC l (CS.new l) 9).adv l i).to l 4
theorem symB_le (l : List Int) (i : Nat) : 1 ≤ symB l i ∧ symB l i ≤ 4 := by
  have := CS.to_le (l := l) (c := (nC l (CS.new l) 9).adv l i) (n := 4) (by omega)
  unfold symB; omega
noncomputable def symV (l : List Int) (i j : Nat) : Rat := dotR 3 (fun t => symP l t i) (fun t => symP l t j) + if i = j then ((symB l i : Int) : Rat) / 2 else 0
theorem symP_val (l : List Int) (t i : Nat) : FV (drawM l 0 3 3 t i) (symP l t i) 5 := nX_val l _ _
theorem symM0_val (l : List Int) (i j : Nat) : FV (symM0 l i j) (dotR 3 (fun t => symP l t i) (fun t => symP l t j)) 33 := dot_val (n := 3) (k := 5) (l := 5) (fun t _ => symP_val l t i) (fun t _ => symP_val l t j) (by decide)
theorem low2_val (n : Int) (hn : 1 ≤ n ∧ n ≤ 4) : FV (lowQ n 2) ((n : Rat) / 2) 3 := by
  have q : Sz (mkRat n 2) 3 := ⟨n, 2, Rat.mkRat_eq_div _ _, by omega, by omega, by omega⟩
  have e : mkRat n 2 = (n : Rat) / 2 := Rat.mkRat_eq_div _ _
  rw [e] at q
  refine ⟨?_, q⟩
  unfold lowQ
  rw [if_neg (by omega), e]
  exact fit_sz q (by decide)
theorem symD_eq (l : List Int) (c : CS) (N : Nat → Nat → FQ) : ∀ (k i j : Nat), symD l c N k i j = if i = j ∧ i < k then (N i j).add (lowQ (1 + (c.adv l i).to l 4) 2) else N i j
  | 0, i, j => by rw [if_neg (by omega)]; rfl
  | k + 1, i, j => by
    show upd2 (symD l c N k) k k _ i j = _
    unfold upd2
    by_cases h : i = k ∧ j = k
    · obtain ⟨rfl, rfl⟩ := h
      rw [if_pos ⟨rfl, rfl⟩, if_pos ⟨rfl, by omega⟩, symD_eq l c N _ _ _, if_neg (by omega)]
    · rw [if_neg h, symD_eq l c N k i j]
      by_cases h2 : i = j ∧ i < k
      · rw [if_pos h2, if_pos (by omega)]
      · rw [if_neg h2, if_neg (by omega)]
theorem symG_val (l : List Int) (i j : Nat) (hi : i < 3) (hj : j < 3) : FV (symG l 3 i j) (symV l i j) 37 := by
  unfold symG symV
  rw [symD_eq]
  by_cases h : i = j
  · rw [if_pos ⟨h, hi⟩, if_pos h]
    exact (symM0_val l i j).add (low2_val (symB l i) (symB_le l i)) (by omega)
  · rw [if_neg (by omega), if_neg h]
    rw [Rat.add_zero]
    exact (symM0_val l i j).mono (by omega)
noncomputable def symMD (l : List Int) : MD := ⟨3, 3, (gridL 3 3 (symG l 3)).map qd⟩
theorem symMD_good (l : List Int) : (symMD l).Good 3 3 := grid_good (n := 3) (c := 3) (by omega) (by omega) fun i j hi hj => (symG_val l i j hi hj).good
theorem symMD_at (l : List Int) {i j : Nat} (hi : i < 3) (hj : j < 3) : (symMD l).at 3 i j = symG l 3 i j := grid_at (n := 3) (c := 3) hi hj
theorem symMD_small (l : List Int) : smallL (symMD l).cells := grid_small (by omega) (by omega)
theorem MakeSymmetric_m (l : List Int) (hl : l.length ≤ 1048576) : PC PP F_spec_MakeSymmetric [byV .s l] (mtV .s (symMD l)) [] := by
  have q := MakeSymmetric_s l hl
  rw [show mtV .s (symMD l) = _ from mt_grid (n := 3) (c := 3)]; exact q
end Go.Proofs.YtikmepdhpffdoaaGreat
