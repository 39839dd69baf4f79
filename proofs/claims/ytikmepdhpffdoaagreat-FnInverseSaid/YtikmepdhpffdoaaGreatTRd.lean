/- part of the proof -/
import Derived.Test.YtikmepdhpffdoaaGreatTRc
import Derived.Test.YtikmepdhpffdoaaGreatTYa
namespace Go.Proofs.YtikmepdhpffdoaaGreat
open Go Go.RowKit
set_option maxRecDepth 100000
set_option maxHeartbeats 4000000
set_option linter.unusedVariables false
set_option linter.unusedSimpArgs false
theorem idM_val (i j : Nat) : FV (idM i j) (if i = j then 1 else 0) 0 := by
  unfold idM
  split
  · exact FV.ofInt (z := 1) (by decide) (by decide)
  · exact FV.ofInt (z := 0) (by decide) (by decide)
theorem list_qd {n : Nat} {x : List FQ} {g : Nat → FQ} (hx : x.length = n) (h : ∀ i, i < n → x.getD i FQ.bad = g i) : x = rowQ n g := by
  refine List.ext_getElem (by rw [rowQ_length, hx]) fun i h1 h2 => ?_
  have := h i (by omega)
  rw [List.getD_eq_getElem?_getD, List.getElem?_eq_getElem h1, Option.getD_some] at this
  simp [rowQ, this]
theorem rowQ_congr {n : Nat} {g h : Nat → FQ} (e : ∀ i, i < n → g i = h i) : rowQ n g = rowQ n h := List.map_congr_left fun i hi => e i (List.mem_range.1 hi)
theorem rdq_map {x : List FQ} : (x.map qd).map rdq = x := by
  rw [List.map_map]
  conv => rhs; rw [← List.map_id x]
  exact List.map_congr_left fun y _ => rdq_qd y
theorem vok_qd {x : List FQ} (hl : x.length ≤ 24) (h : allG x = true) : vokR (x.map qd) = true := by
  unfold vokR
  rw [List.length_map, decide_eq_true hl, Bool.true_and, List.all_eq_true]
  intro r hr
  obtain ⟨y, hy, rfl⟩ := List.mem_map.1 hr
  rw [qd_ok]
  rw [allG_mem] at h
  exact h y hy
theorem allG_row {n : Nat} {g : Nat → FQ} (h : ∀ i, i < n → (g i).good = true) : allG (rowQ n g) = true := by
  rw [allG_mem]
  intro x hx
  obtain ⟨k, hk, rfl⟩ := List.mem_map.1 hx
  exact h k (List.mem_range.1 hk)
theorem apply_val {m : MD} {r c k l : Nat} {A : Nat → Nat → Rat} {v : Nat → Rat} {x : List FQ} (hg : m.Good r c) (hA : ∀ i j, i < r → j < c → FV (m.at c i j) (A i j) k) (hx : x.length = c) (hv : ∀ j, j < c → FV (x.getD j FQ.bad) (v j) l) (hK : c * (k + l + 1) ≤ 696) :
    ∃ g : Nat → FQ, applyQ m (x.map qd) = (rowQ r g, true) ∧ ∀ i, i < r → FV (g i) (dotR c (A i) v) (c * (k + l + 1)) := by
  have hall : allG x = true := by
    rw [list_qd hx (fun i _ => rfl)]
    exact allG_row fun i hi => (hv i hi).good
  have hok : appOk m (x.map qd) = true := by
    unfold appOk
    rw [good_ok hg, vok_qd (by have := hg.c24; omega) hall, decide_eq_true (show ((x.map qd).length : Int) = m.cols by rw [List.length_map, hx, hg.ec])]; rfl
  refine ⟨fun i => sumQ (fun t => (m.at c i t).mul (x.getD t FQ.bad)) c, ?_, fun i hi => dot_val (fun t ht => hA i t hi ht) hv hK⟩
  unfold applyQ
  rw [if_pos hok, appL_eq hg, rdq_map]
  exact doneQ_ok (allG_row fun i hi => (dot_val (fun t ht => hA i t hi ht) hv hK).good)
theorem mul_val {a b : MD} {r c d k l : Nat} {A B : Nat → Nat → Rat} (ga : a.Good r c) (gb : b.Good c d) (hA : ∀ i j, i < r → j < c → FV (a.at c i j) (A i j) k) (hB : ∀ i j, i < c → j < d → FV (b.at d i j) (B i j) l) (hK : c * (k + l + 1) ≤ 696) :
    ∃ X : Nat → Nat → FQ, mulM a b = (⟨r, d, (gridL r d X).map qd⟩, true) ∧ ∀ i j, i < r → j < d → FV (X i j) (dotR c (A i) fun t => B t j) (c * (k + l + 1)) := by
  have hok : mulOk a b = true := by
    unfold mulOk
    rw [good_ok ga, good_ok gb, decide_eq_true (show a.cols = b.rows by rw [ga.ec, gb.er])]; rfl
  have hv : ∀ i j, i < r → j < d → FV (sumQ (fun t => (a.at c i t).mul (b.at d t j)) c) (dotR c (A i) fun t => B t j) (c * (k + l + 1)) := fun i j hi hj =>
    dot_val (fun t ht => hA i t hi ht) (fun t ht => hB t j ht hj) hK
  refine ⟨fun i j => sumQ (fun t => (a.at c i t).mul (b.at d t j)) c, ?_, hv⟩
  rw [mulM_ok hok ga gb, cloQ_done, doneM, if_pos (gridL_all fun i j hi hj => (hv i j hi hj).good)]
theorem inv_facts (m : MD) (hg : m.Good 3 3) (A : Nat → Nat → Rat) (V : Nat → Rat) (hA : ∀ i j, i < 3 → j < 3 → FV (m.at 3 i j) (A i j) 5) (x : List FQ) (hx : x.length = 3) (hV : ∀ i, i < 3 → FV (x.getD i FQ.bad) (V i) 5) :
    ∃ b : Bool, (detQ m).good = true ∧ (sgZ (detQ m).num = 0 ↔ b = false) ∧ (invR m).2 = b ∧ (sysQ m (x.map qd)).2 = b ∧ (redR m).2.2 = true ∧ ((redR m).2.1.length = 3 ↔ b = true) ∧
      (b = true → mulM m (invR m).1 = ((cloQ 3 3 idM).1, true) ∧ applyQ m ((sysQ m (x.map qd)).1.map qd) = (x, true) ∧ applyQ (invR m).1 (x.map qd) = ((sysQ m (x.map qd)).1, true)) := by
  have ho := good_ok hg
  have hgd : ∀ i j, i < 3 → j < 3 → (m.at 3 i j).good = true := fun i j hi hj => (hA i j hi hj).good
  have hxv : ∀ i j, i < 3 → j < 1 → FV (colM x i j) (V i) 5 := fun i j hi _ => hV i hi
  have hall : allG x = true := by
    rw [list_qd hx (fun i _ => rfl)]
    exact allG_row fun i hi => (hV i hi).good
  have hK : Kt 5 3 ≤ 696 := by decide
  have hD : Dt 5 3 ≤ 696 := by decide
  obtain ⟨st, R, e, hj, hinv⟩ := sol_iff hA (fun i j _ _ => (idM_val i j).mono (by omega)) hK hD (d := 3) (N := idM) (B := fun i j => if i = j then 1 else 0)
  obtain ⟨st2, R2, e2, hj2, hsys⟩ := sol_iff hA hxv hK hD
  rw [e] at e2; cases e2
  obtain ⟨b, hb⟩ : ∃ b, b = decide (st.piv.length = 3) := ⟨_, rfl⟩
  -- the reference's elimination
  obtain ⟨a, ea, hS⟩ : ∃ a, redTo 3 3 (m.at 3) 3 = some a ∧ Same 3 3 3 a (refTo 3 3 (m.at 3) 3) := by
    rcases to_same hgd (Nat.le_refl 3) with h | ⟨ea, _, _⟩
    · exact h
    · rw [e] at ea; cases ea
  rw [e] at ea; cases ea
  have hal : allG (gridL 3 3 (refTo 3 3 (m.at 3) 3).M) = true := by
    rw [show gridL 3 3 (refTo 3 3 (m.at 3) 3).M = gridL 3 3 st.M from gridL_congr fun i j hi hj => (hS.m i j hi hj).symm]
    exact gridL_all fun i j hi hj => hS.good i j hi hj
  have hpiv := hS.piv
  have hdet := hS.det
  refine ⟨b, ?_⟩
  have hd : detQ m = if st.piv.length < 3 then FQ.ofInt 0 else st.det := by
    rw [detQ_ok ho hg]; unfold detN
    rw [if_pos hal, ← hpiv, ← hdet]
  obtain ⟨δ, hδ, hδ0⟩ := hj.det
  have hpl := hj.pl
  have hred : redR m = (⟨3, 3, (gridL 3 3 (refTo 3 3 (m.at 3) 3).M).map qd⟩, st.piv, true) := by
    rw [redR_ok ho hg]; unfold redQ
    rw [if_pos hal, ← hpiv]; rfl
  have hsq : sysQ m (x.map qd) = sysN 3 (m.at 3) x := by
    rw [sysQ_ok ?_ hg, rdq_map]
    unfold sysOk
    rw [ho, vok_qd (by omega) hall, decide_eq_true (show m.rows = m.cols by rw [hg.er, hg.ec]), decide_eq_true (show m.rows ≤ 12 by rw [hg.er]; decide), decide_eq_true (show ((x.map qd).length : Int) = m.rows by rw [List.length_map, hx, hg.er])]; rfl
  rw [hsq, invR_ok ho hg (by omega), hred]
  by_cases hl : st.piv.length = 3
  · have hbt : b = true := by rw [hb]; exact decide_eq_true hl
    obtain ⟨X, hX⟩ := Option.isSome_iff_exists.1 (hinv.2 hl)
    obtain ⟨X1, hX1⟩ := Option.isSome_iff_exists.1 (hsys.2 hl)
    obtain ⟨Y, hY, hYe⟩ := sol_val hA (fun i j _ _ => (idM_val i j).mono (show 0 ≤ 5 by omega)) hK hD hX
    obtain ⟨Y1, hY1, hYe1⟩ := sol_val hA hxv hK hD hX1
    have hYe : ∀ i k, i < 3 → k < 3 → dotR 3 (A i) (fun j => Y j k) = if i = k then 1 else 0 := hYe
    have hdn := det_ne hYe
    have hYs : ∀ i j, i < 3 → j < 3 → FV (X i j) (Y i j) 145 := fun i j hi hj =>
      (hY i j hi hj).val rfl (cram_sz (k := 5) (l := 0) (b := fun i => if i = j then 1 else 0) (fun i j hi hj => (hA i j hi hj).s) (fun i _ => (idM_val i j).s) (fun i hi => hYe i j hi hj) hdn i hi)
    have hY1s : ∀ i, i < 3 → FV (X1 i 0) (Y1 i 0) 160 := fun i hi =>
      (hY1 i 0 hi (by omega)).val rfl (cram_sz (k := 5) (l := 5) (b := V) (fun i j hi hj => (hA i j hi hj).s) (fun i hi => (hV i hi).s) (fun i hi => hYe1 i 0 hi (by omega)) hdn i hi)
    have hXg : ∀ i j, i < 3 → j < 3 → (X i j).good = true := fun i j hi hj => (hYs i j hi hj).good
    have hiN : invN 3 (m.at 3) = (⟨3, 3, (gridL 3 3 X).map qd⟩, true) := by
      unfold invN; rw [hX]; simp only
      rw [cloQ_done, doneM, if_pos (gridL_all hXg)]; rfl
    have hsN : sysN 3 (m.at 3) x = (rowQ 3 fun i => X1 i 0, true) := sysN_some hX1
    rw [hiN, hsN, hbt]
    refine ⟨by rw [hd, if_neg (by omega)]; exact hδ.good, ?_, rfl, rfl, rfl, by simp [hl], fun _ => ⟨?_, ?_, ?_⟩⟩
    · rw [hd, if_neg (by omega)]
      have : st.det.num ≠ 0 := fun q => hδ0 (hδ.num.1 q)
      unfold sgZ
      rw [if_neg this]
      split <;> simp
    · have gq := grid_good (n := 3) (c := 3) (by omega) (by omega) hXg
      obtain ⟨Z, hZ, hZv⟩ := mul_val hg gq hA (fun i j hi hj => by rw [grid_at hi hj]; exact hYs i j hi hj) (by omega)
      show mulM m ⟨((3 : Nat) : Int), ((3 : Nat) : Int), (gridL 3 3 X).map qd⟩ = _
      rw [hZ]
      have e1 : gridL 3 3 Z = gridL 3 3 idM := gridL_congr fun i j hi hj => (hZv i j hi hj).eq (idM_val i j) (hYe i j hi hj)
      rw [e1, cloQ_done, doneM, if_pos (gridL_all fun i j _ _ => idM_good i j)]
    · obtain ⟨g, hgq, hgv⟩ := apply_val hg hA (x := rowQ 3 fun i => X1 i 0) rowQ_length (fun j hj => by rw [rowQ_get hj]; exact hY1s j hj) (by omega)
      show applyQ m ((rowQ 3 fun i => X1 i 0).map qd) = _
      rw [hgq]
      have e1 : rowQ 3 g = x := by
        symm
        exact list_qd hx fun i hi => (hV i hi).eq (hgv i hi) (hYe1 i 0 hi (by omega)).symm
      rw [e1]
    · have gq := grid_good (n := 3) (c := 3) (by omega) (by omega) hXg
      obtain ⟨g, hgq, hgv⟩ := apply_val gq (A := Y) (k := 145) (fun i j hi hj => by rw [grid_at hi hj]; exact hYs i j hi hj) hx hV (by omega)
      show applyQ ⟨((3 : Nat) : Int), ((3 : Nat) : Int), (gridL 3 3 X).map qd⟩ (x.map qd) = _
      rw [hgq]
      have e1 : rowQ 3 g = rowQ 3 fun i => X1 i 0 := rowQ_congr fun i hi => (hgv i hi).eq (hY1s i hi) (cram_uniq (b := V) (fun i hi => dot_comp hYe i hi) (fun i hi => hYe1 i 0 hi (by omega)) hdn i hi)
      rw [e1]
  · have hbt : b = false := by rw [hb]; exact decide_eq_false hl
    have h1 : solO 3 3 3 (m.at 3) idM = none := by
      cases q : solO 3 3 3 (m.at 3) idM with
      | none => rfl
      | some X => exact absurd (hinv.1 (by rw [q]; rfl)) hl
    have h2 : solO 3 3 1 (m.at 3) (colM x) = none := by
      cases q : solO 3 3 1 (m.at 3) (colM x) with
      | none => rfl
      | some X => exact absurd (hsys.1 (by rw [q]; rfl)) hl
    rw [show invN 3 (m.at 3) = noM by unfold invN; rw [h1], sysN_none h2, hbt]
    refine ⟨by rw [hd, if_pos (by omega)]; exact ofInt_good (by omega), ?_, rfl, rfl, rfl, by simp [hl], fun q => by cases q⟩
    rw [hd, if_pos (by omega)]
    have : (FQ.ofInt 0).num = 0 := (FV.ofInt (z := 0) (k := 0) (by decide) (by decide)).num.2 rfl
    rw [this]
    simp [sgZ]
end Go.Proofs.YtikmepdhpffdoaaGreat
