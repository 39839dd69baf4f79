/- part of the proof -/
import Derived.Test.YtpmjjdhnacmphaaTRd
import Derived.Test.YtpmjjdhnacmphaaTKb
import Derived.Test.YtpmjjdhnacmphaaTKa
import Derived.Test.YtpmjjdhnacmphaaTGr
import Derived.Test.YtpmjjdhnacmphaaTLa4
namespace Go.Proofs.Ytpmjjdhnacmphaa
open Go Go.RowKit
set_option maxRecDepth 100000
set_option maxHeartbeats 4000000
set_option linter.unusedVariables false
set_option linter.unusedSimpArgs false
theorem tr_grid {m : MD} {r c : Nat} (hg : m.Good r c) : trM m = ⟨c, r, (gridL c r fun i j => m.at c j i).map qd⟩ := by
  rw [trM_ok (good_ok hg) hg, gridL_qd fun i k hi hk => (MD.at_ok hg hk hi).2]
theorem dot2 {u y : Nat → Rat} : dotR 2 u y = u 0 * y 0 + u 1 * y 1 := by
  show 0 + u 0 * y 0 + u 1 * y 1 = _
  rw [Rat.zero_add]
theorem mat_facts (a b : MD) (ga : a.Good 2 3) (gb : b.Good 3 2) (A B : Nat → Nat → Rat) (V : Nat → Rat) (hA : ∀ i j, i < 2 → j < 3 → FV (a.at 3 i j) (A i j) 5) (hB : ∀ i j, i < 3 → j < 2 → FV (b.at 2 i j) (B i j) 5)
    (x : List FQ) (hx : x.length = 2) (hV : ∀ i, i < 2 → FV (x.getD i FQ.bad) (V i) 5) :
    ∃ (p t : MD) (y z : List FQ), mulM a b = (p, true) ∧ p.ok = true ∧ smallL p.cells ∧ mulM (trM b) (trM a) = (t, true) ∧ trM p = t ∧ applyQ p (x.map qd) = (z, true) ∧ z.length = 2 ∧ applyQ b (x.map qd) = (y, true) ∧ y.length = 3 ∧ applyQ a (y.map qd) = (z, true) := by
  obtain ⟨X, e1, hX⟩ := mul_val ga gb hA hB (by decide)
  have gp : (⟨2, 2, (gridL 2 2 X).map qd⟩ : MD).Good 2 2 := grid_good (n := 2) (c := 2) (by omega) (by omega) fun i j hi hj => (hX i j hi hj).good
  have gat : ∀ i j, i < 2 → j < 2 → (⟨2, 2, (gridL 2 2 X).map qd⟩ : MD).at 2 i j = X i j := fun i j hi hj => grid_at (n := 2) (c := 2) hi hj
  have ta := tr_grid ga
  have tb := tr_grid gb
  have gta : (trM a).Good 3 2 := by rw [ta]; exact grid_good (n := 3) (c := 2) (by omega) (by omega) fun i j hi hj => (hA j i hj hi).good
  have gtb : (trM b).Good 2 3 := by rw [tb]; exact grid_good (n := 2) (c := 3) (by omega) (by omega) fun i j hi hj => (hB j i hj hi).good
  obtain ⟨Y, e2, hY⟩ := mul_val (k := 5) (l := 5) (A := fun i j => B j i) (B := fun i j => A j i) gtb gta (fun i j hi hj => by
    rw [tb, grid_at (n := 2) (c := 3) hi hj]; exact hB j i hj hi) (fun i j hi hj => by
    rw [ta, grid_at (n := 3) (c := 2) hi hj]; exact hA j i hj hi) (by decide)
  obtain ⟨g, e3, hg⟩ := apply_val gp (k := 33) (l := 5) (v := V) (A := fun i j => dotR 3 (A i) fun t => B t j) (fun i j hi hj => by rw [gat i j hi hj]; exact hX i j hi hj) hx hV (by decide)
  obtain ⟨h, e4, hh⟩ := apply_val gb (k := 5) (l := 5) hB hx hV (by decide)
  obtain ⟨w, e5, hw⟩ := apply_val ga (k := 5) (l := 22) (x := rowQ 3 h) (v := fun i => dotR 2 (B i) V) hA (rowQ_length) (fun i hi => by rw [rowQ_get hi]; exact hh i hi) (by decide)
  have ez : rowQ 2 w = rowQ 2 g := rowQ_congr fun i hi => (hw i hi).eq (hg i hi) (by
    rw [dot3, dot2, dot2, dot2, dot2, dot3, dot3]; grind)
  have et : trM (⟨2, 2, (gridL 2 2 X).map qd⟩ : MD) = ⟨2, 2, (gridL 2 2 Y).map qd⟩ := by
    rw [tr_grid gp]
    have : gridL 2 2 (fun i j => (⟨2, 2, (gridL 2 2 X).map qd⟩ : MD).at 2 j i) = gridL 2 2 Y := gridL_congr fun i j hi hj => by
      show (⟨2, 2, (gridL 2 2 X).map qd⟩ : MD).at 2 j i = _
      rw [gat j i hj hi]
      exact (hX j i hj hi).eq (hY i j hi hj) (by rw [dot3, dot3]; grind)
    rw [this]; rfl
  refine ⟨_, _, rowQ 3 h, rowQ 2 g, e1, good_ok gp, grid_small (by omega) (by omega), e2, et, e3, rowQ_length, e4, rowQ_length, ?_⟩
  rw [e5, ez]
end Go.Proofs.Ytpmjjdhnacmphaa
