/- part of the proof -/
import Derived.Test.YtikmepdhpffdoaaGreatTMy
import Derived.Test.YtikmepdhpffdoaaGreatTRe
import Derived.Test.YtikmepdhpffdoaaGreatTKc
namespace Go.Proofs.YtikmepdhpffdoaaGreat
open Go Go.RowKit
set_option maxRecDepth 100000
set_option maxHeartbeats 4000000
set_option linter.unusedVariables false
set_option linter.unusedSimpArgs false
theorem numX_int (l : List Int) (c : CS) : ∃ p : Int, (numX l c).val = (p : Rat) / 60 ∧ p.natAbs ≤ 1200 := by
  have key : ∀ (x : FQ) (p : Int), (∃ k, FV x ((p : Rat) / 60) k) → p.natAbs ≤ 1200 → ∃ p : Int, x.val = (p : Rat) / 60 ∧ p.natAbs ≤ 1200 := fun x p ⟨k, h⟩ hp => ⟨p, by unfold FQ.val; rw [h.v]; rfl, hp⟩
  unfold numX
  have b1 := CS.to_le (l := l) (c := c.nx l) (n := 41) (by omega)
  have b2 := CS.to_le (l := l) (c := (c.nx l).nx l) (n := 6) (by omega)
  have b3 := CS.to_le (l := l) (c := c.nx l) (n := 21) (by omega)
  split
  · unfold lowQ
    rw [if_neg (by omega)]
    generalize (c.nx l).to l 41 = x at *
    generalize ((c.nx l).nx l).to l 6 = y at *
    have q : Sz (mkRat (x - 20) (1 + y).natAbs) 5 := ⟨_, _, Rat.mkRat_eq_div _ _, by omega, by omega, by omega⟩
    obtain ⟨e, he⟩ : ∃ e : Int, (1 + y) * e = 60 ∧ 0 < e ∧ e ≤ 60 := by
      obtain rfl | rfl | rfl | rfl | rfl | rfl : y = 0 ∨ y = 1 ∨ y = 2 ∨ y = 3 ∨ y = 4 ∨ y = 5 := by omega
      · exact ⟨60, by decide⟩
      · exact ⟨30, by decide⟩
      · exact ⟨20, by decide⟩
      · exact ⟨15, by decide⟩
      · exact ⟨12, by decide⟩
      · exact ⟨10, by decide⟩
    have ev : mkRat (x - 20) (1 + y).natAbs = (((x - 20) * e : Int) : Rat) / 60 := by
      rw [Rat.mkRat_eq_div]
      have e1 : (((1 + y).natAbs : Nat) : Rat) = ((1 + y : Int) : Rat) := by
        rw [show (((1 + y).natAbs : Nat) : Rat) = ((((1 + y).natAbs : Nat) : Int) : Rat) from rfl, show (((1 + y).natAbs : Nat) : Int) = 1 + y by omega]
      have h1 : ((1 + y : Int) : Rat) ≠ 0 := cast_ne (by omega)
      have h2 : ((1 + y : Int) : Rat) * (e : Rat) = 60 := by exact_mod_cast he.1
      rw [e1]
      push_cast at *
      generalize ((x : Rat) - 20) = X at *
      generalize (1 + (y : Rat)) = Y at *
      rw [← h2]
      have h3 : (e : Rat) ≠ 0 := cast_ne he.2.1
      grind
    refine key _ ((x - 20) * e) ⟨5, ?_⟩ ?_
    · rw [← ev]; exact ⟨fit_sz q (by decide), q⟩
    · have := natAbs_mul_le (show (x - 20).natAbs ≤ 20 by omega) (show e.natAbs ≤ 60 by omega)
      omega
  · generalize (c.nx l).to l 21 = x at *
    refine key _ ((x - 10) * 60) ⟨_, (FV.ofInt (z := x - 10) (k := 5) (by omega) (by decide)).val (by push_cast; grind) (k := 5) (l := 5) (s := (((x - 10) * 60 : Int) : Rat) / 60) ?_⟩ (by omega)
    have : (((x - 10) * 60 : Int) : Rat) / 60 = ((x - 10 : Int) : Rat) := by push_cast; grind
    rw [this]; exact Sz.int (by omega)
noncomputable def numP (l : List Int) (c : CS) : Int := Classical.choose (numX_int l c)
theorem numP_spec (l : List Int) (c : CS) : (numX l c).val = (numP l c : Rat) / 60 ∧ (numP l c).natAbs ≤ 1200 := Classical.choose_spec (numX_int l c)
noncomputable def symp (l : List Int) (t i : Nat) : Int := numP l (nC l (CS.at l 0) (t * 3 + i))
theorem symp_val (l : List Int) (t i : Nat) : symP l t i = (symp l t i : Rat) / 60 ∧ (symp l t i).natAbs ≤ 1200 := numP_spec l _
noncomputable def symZ (l : List Int) (i j : Nat) : Int := symp l 0 i * symp l 0 j + symp l 1 i * symp l 1 j + symp l 2 i * symp l 2 j + if i = j then 1800 * symB l i else 0
theorem symV_Z (l : List Int) (i j : Nat) : symV l i j = (symZ l i j : Rat) / 3600 := by
  unfold symV symZ
  rw [dot3, (symp_val l 0 i).1, (symp_val l 1 i).1, (symp_val l 2 i).1, (symp_val l 0 j).1, (symp_val l 1 j).1, (symp_val l 2 j).1]
  split
  · push_cast; grind
  · push_cast; grind
theorem sq_nn (x : Int) : 0 ≤ x * x := by rw [← Int.natAbs_mul_self]; omega
theorem sq_pos {x : Int} (h : x ≠ 0) : 0 < x * x := by
  rw [← Int.natAbs_mul_self]
  have : 0 < x.natAbs * x.natAbs := Nat.mul_pos (by omega) (by omega)
  omega
theorem mul_ge {b x : Int} (hb : 1 ≤ b) (hx : 0 ≤ x) : x ≤ b * x := by
  have := Int.mul_le_mul_of_nonneg_right hb hx
  rw [Int.one_mul] at this; exact this
theorem symZ_sz (l : List Int) : SZ (symZ l) := by
  refine ⟨fun i j => ?_, fun i j hi hj => ?_, fun v hv => ?_⟩
  · unfold symZ
    by_cases h : i = j
    · subst h; rfl
    · rw [if_neg h, if_neg (fun e => h e.symm), Int.mul_comm (symp l 0 i), Int.mul_comm (symp l 1 i), Int.mul_comm (symp l 2 i)]
  · have a := natAbs_mul_le (symp_val l 0 i).2 (symp_val l 0 j).2
    have b := natAbs_mul_le (symp_val l 1 i).2 (symp_val l 1 j).2
    have c := natAbs_mul_le (symp_val l 2 i).2 (symp_val l 2 j).2
    have d := symB_le l i
    unfold symZ
    split <;> omega
  · have e : qZ (symZ l) v = (symp l 0 0 * v 0 + symp l 0 1 * v 1 + symp l 0 2 * v 2) * (symp l 0 0 * v 0 + symp l 0 1 * v 1 + symp l 0 2 * v 2) + (symp l 1 0 * v 0 + symp l 1 1 * v 1 + symp l 1 2 * v 2) * (symp l 1 0 * v 0 + symp l 1 1 * v 1 + symp l 1 2 * v 2) + (symp l 2 0 * v 0 + symp l 2 1 * v 1 + symp l 2 2 * v 2) * (symp l 2 0 * v 0 + symp l 2 1 * v 1 + symp l 2 2 * v 2) + 1800 * (symB l 0 * (v 0 * v 0)) + 1800 * (symB l 1 * (v 1 * v 1)) + 1800 * (symB l 2 * (v 2 * v 2)) := by
      simp only [qZ, symZ, Nat.reduceEqDiff, if_true, if_false]; grind
    rw [e]
    have s0 := sq_nn (symp l 0 0 * v 0 + symp l 0 1 * v 1 + symp l 0 2 * v 2)
    have s1 := sq_nn (symp l 1 0 * v 0 + symp l 1 1 * v 1 + symp l 1 2 * v 2)
    have s2 := sq_nn (symp l 2 0 * v 0 + symp l 2 1 * v 1 + symp l 2 2 * v 2)
    have t0 := mul_ge (symB_le l 0).1 (sq_nn (v 0))
    have t1 := mul_ge (symB_le l 1).1 (sq_nn (v 1))
    have t2 := mul_ge (symB_le l 2).1 (sq_nn (v 2))
    have u0 := sq_nn (v 0)
    have u1 := sq_nn (v 1)
    have u2 := sq_nn (v 2)
    rcases hv with h | h | h
    · have := sq_pos h; omega
    · have := sq_pos h; omega
    · have := sq_pos h; omega
theorem symG_Z (l : List Int) (i j : Nat) (hi : i < 3) (hj : j < 3) : FV (symG l 3 i j) ((symZ l i j : Rat) / 3600) 37 := by
  rw [← symV_Z]; exact symG_val l i j hi hj
theorem symMD_sym (l : List Int) : symM (symMD l) = true := by
  have hg := symMD_good l
  unfold symM
  rw [good_ok hg, Bool.true_and, decide_eq_true_eq, tr_grid hg]
  show (⟨3, 3, (gridL 3 3 (symG l 3)).map qd⟩ : MD) = ⟨3, 3, (gridL 3 3 _).map qd⟩
  refine congrArg (fun L : List FQ => (⟨3, 3, L.map qd⟩ : MD)) (gridL_congr fun i j hi hj => ?_)
  rw [symMD_at l hj hi]
  exact (symG_Z l i j hi hj).eq (symG_Z l j i hj hi) (by rw [(symZ_sz l).sym])
end Go.Proofs.YtikmepdhpffdoaaGreat
