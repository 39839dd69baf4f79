/- part of the proof -/
import Derived.Test.YtikmepdhpffdoaaGreatTRk
namespace Go.Proofs.YtikmepdhpffdoaaGreat
open Go Go.RowKit
set_option maxRecDepth 100000
set_option maxHeartbeats 4000000
set_option linter.unusedVariables false
set_option linter.unusedSimpArgs false
theorem symG_23 (l : List Int) (i j : Nat) (hi : i < 3) (hj : j < 3) : FV (symG l 3 i j) ((symZ l i j : Rat) / 3600) 23 := by
  refine (symG_Z l i j hi hj).val rfl ?_
  have := Sz.quo (k := 23) ((symZ_sz l).le i j hi hj) (show (0 : Int) < 3600 by decide) (by decide)
  exact this
def dgM (D : Nat → FQ) (k : Nat) : Nat → Nat → FQ := fun i j => if i = j ∧ i < k then D i else FQ.ofInt 0
theorem dgM_succ (D : Nat → FQ) (k : Nat) : upd2 (dgM D k) k k (D k) = dgM D (k + 1) := by
  funext i j
  unfold upd2 dgM
  by_cases h : i = k ∧ j = k
  · obtain ⟨rfl, rfl⟩ := h
    rw [if_pos ⟨rfl, rfl⟩, if_pos ⟨rfl, by omega⟩]
  · rw [if_neg h]
    by_cases h2 : i = j ∧ i < k
    · rw [if_pos h2, if_pos (by omega)]
    · rw [if_neg h2, if_neg (by omega)]
def gM (n c : Nat) (X : Nat → Nat → FQ) : MD := ⟨n, c, (gridL n c X).map qd⟩
theorem gM_at {n c : Nat} {X : Nat → Nat → FQ} {i j : Nat} (hi : i < n) (hj : j < c) : (gM n c X).at c i j = X i j := grid_at hi hj
theorem gM_good {n c : Nat} {X : Nat → Nat → FQ} (hn : n ≤ 24) (hc : c ≤ 24) (h : ∀ i j, i < n → j < c → (X i j).good = true) : (gM n c X).Good n c := grid_good hn hc h
theorem gM_congr {n c : Nat} {X Y : Nat → Nat → FQ} (h : ∀ i j, i < n → j < c → X i j = Y i j) : gM n c X = gM n c Y := by unfold gM; rw [gridL_congr h]
theorem gM_tr {n c : Nat} {X : Nat → Nat → FQ} (hn : n ≤ 24) (hc : c ≤ 24) (h : ∀ i j, i < n → j < c → (X i j).good = true) : trM (gM n c X) = gM c n fun i j => X j i := by
  rw [tr_grid (gM_good hn hc h)]
  exact gM_congr fun i j hi hj => gM_at hj hi
theorem dot_unit {u : Nat → Rat} {d : Rat} {j : Nat} (hj : j < 3) : dotR 3 u (fun t => if t = j then d else 0) = u j * d := by
  rw [dot3]
  obtain rfl | rfl | rfl : j = 0 ∨ j = 1 ∨ j = 2 := by omega
  all_goals (simp only [Nat.reduceEqDiff, if_true, if_false]; grind)
theorem fac_mul (l : List Int) : ∃ (L : Nat → Nat → FQ) (D : Nat → FQ) (A : MD), facR (symMD l) = (gM 3 3 L, rowQ 3 D, true) ∧ (∀ i j, i < 3 → j < 3 → (L i j).good = true) ∧ (∀ i, i < 3 → 0 < (D i).num) ∧ mulM (gM 3 3 L) (gM 3 3 (dgM D 3)) = (A, true) ∧ smallL A.cells ∧ mulM A (trM (gM 3 3 L)) = (symMD l, true) := by
  obtain ⟨L, D, e1, hL, hD⟩ := fac_facts (symMD_good l) (symZ_sz l) (fun i j hi hj => by rw [symMD_at l hi hj]; exact symG_23 l i j hi hj) (symMD_sym l)
  have gL : ∀ i j, i < 3 → j < 3 → (L i j).good = true := fun i j hi hj => (hL i j hi hj).good
  have h0 : FV (FQ.ofInt 0) 0 72 := by
    have := FV.ofInt (z := 0) (k := 72) (by decide) (by decide)
    exact this
  have hdg : ∀ i j, i < 3 → j < 3 → FV (dgM D 3 i j) (if i = j then zD (symZ l) j else 0) 72 := fun i j hi hj => by
    unfold dgM
    by_cases h : i = j
    · subst h
      rw [if_pos ⟨rfl, hi⟩, if_pos rfl]
      exact (hD i hi).1
    · rw [if_neg (by omega), if_neg h]; exact h0
  obtain ⟨X, e2, hX⟩ := mul_val (a := gM 3 3 L) (b := gM 3 3 (dgM D 3)) (k := 47) (l := 72) (gM_good (by omega) (by omega) gL) (gM_good (by omega) (by omega) fun i j hi hj => (hdg i j hi hj).good) (fun i j hi hj => by rw [gM_at hi hj]; exact hL i j hi hj) (fun i j hi hj => by rw [gM_at hi hj]; exact hdg i j hi hj) (by decide)
  have hX2 : ∀ i j, i < 3 → j < 3 → FV (X i j) (zLL (symZ l) i j * zD (symZ l) j) 119 := fun i j hi hj =>
    (hX i j hi hj).val (dot_unit hj) ((hL i j hi hj).s.mul (hD j hj).1.s)
  have gX : ∀ i j, i < 3 → j < 3 → (X i j).good = true := fun i j hi hj => (hX i j hi hj).good
  have et := gM_tr (n := 3) (c := 3) (X := L) (by omega) (by omega) gL
  obtain ⟨Y, e3, hY⟩ := mul_val (a := gM 3 3 X) (b := trM (gM 3 3 L)) (k := 119) (l := 47) (A := fun i t => zLL (symZ l) i t * zD (symZ l) t) (B := fun t j => zLL (symZ l) j t) (gM_good (by omega) (by omega) gX) (by rw [et]; exact gM_good (by omega) (by omega) fun i j hi hj => gL j i hj hi) (fun i j hi hj => by rw [gM_at hi hj]; exact hX2 i j hi hj) (fun i j hi hj => by rw [et, gM_at hi hj]; exact hL j i hj hi) (by decide)
  have eY : gM 3 3 Y = symMD l := gM_congr fun i j hi hj => (hY i j hi hj).eq (symG_23 l i j hi hj) (zLDL (symZ_sz l) i j hi hj)
  refine ⟨L, D, gM 3 3 X, e1, gL, fun i hi => (hD i hi).1.pos (hD i hi).2, e2, grid_small (by omega) (by omega), ?_⟩
  rw [e3]
  exact congrArg (fun m : MD => (m, true)) eY
theorem quad_facts (l : List Int) (c : CS) : (quadQ (symMD l) ((rowQ 3 (nX l c)).map qd)).good = true ∧ (0 < (quadQ (symMD l) ((rowQ 3 (nX l c)).map qd)).num ∨ rowQ 3 (nX l c) = rowQ 3 fun _ => FQ.ofInt 0) := by
  have hg := symMD_good l
  have hx : (rowQ 3 (nX l c)).length = 3 := rowQ_length
  have hv : ∀ i, i < 3 → FV ((rowQ 3 (nX l c)).getD i FQ.bad) ((numP l (nC l c i) : Rat) / 60) 5 := fun i hi => by
    rw [rowQ_get hi, ← (numP_spec l (nC l c i)).1]
    exact nX_val l c i
  have hz : (∀ i, i < 3 → numP l (nC l c i) = 0) → rowQ 3 (nX l c) = rowQ 3 fun _ => FQ.ofInt 0 := fun h => rowQ_congr fun i hi => by
    have := hv i hi
    rw [rowQ_get hi, h i hi] at this
    have h0 := FV.ofInt (z := 0) (k := 5) (by decide) (by decide)
    exact this.eq h0 (by push_cast; grind)
  generalize (fun i => numP l (nC l c i)) = p at *
  obtain ⟨p, hp⟩ : ∃ p : Nat → Int, p = fun i => numP l (nC l c i) := ⟨_, rfl⟩
  have hv' : ∀ i, i < 3 → FV ((rowQ 3 (nX l c)).getD i FQ.bad) ((p i : Rat) / 60) 5 := fun i hi => by rw [hp]; exact hv i hi
  have hz' : (∀ i, i < 3 → p i = 0) → rowQ 3 (nX l c) = rowQ 3 fun _ => FQ.ofInt 0 := fun h => hz fun i hi => by have := h i hi; rw [hp] at this; exact this
  clear hv hz hp
  generalize rowQ 3 (nX l c) = x at *
  have hall : allG x = true := by
    rw [list_qd hx (fun i _ => rfl)]
    exact allG_row fun i hi => (hv' i hi).good
  have hok : appOk (symMD l) (x.map qd) = true := by
    unfold appOk
    rw [good_ok hg, vok_qd (by omega) hall, decide_eq_true (show ((x.map qd).length : Int) = (symMD l).cols by rw [List.length_map, hx]; rfl)]; rfl
  have ha : ∀ i, i < 3 → FV (sumQ (fun t => ((symMD l).at 3 i t).mul (x.getD t FQ.bad)) 3) (dotR 3 (fun t => (symZ l i t : Rat) / 3600) fun t => (p t : Rat) / 60) 87 := fun i hi =>
    dot_val (k := 23) (l := 5) (fun t ht => by rw [symMD_at l hi ht]; exact symG_23 l i t hi ht) hv' (by decide)
  have hq : FV (quadQ (symMD l) (x.map qd)) (dotR 3 (fun t => (p t : Rat) / 60) fun i => dotR 3 (fun t => (symZ l i t : Rat) / 3600) fun t => (p t : Rat) / 60) 279 := by
    have e : quadQ (symMD l) (x.map qd) = sumQ (fun i => (x.getD i FQ.bad).mul (sumQ (fun t => ((symMD l).at 3 i t).mul (x.getD t FQ.bad)) 3)) 3 := by
      unfold quadQ
      rw [hok, decide_eq_true (show (symMD l).rows = (symMD l).cols from rfl), if_pos (by rfl), List.length_map, hx]
      refine sumQ_congr fun i hi => ?_
      rw [appL_eq hg, rdq_map, rowQ_get hi]
    rw [e]
    exact dot_val (k := 5) (l := 87) hv' ha (by decide)
  refine ⟨hq.good, ?_⟩
  by_cases h : p 0 = 0 ∧ p 1 = 0 ∧ p 2 = 0
  · exact .inr (hz' fun i hi => by
      obtain rfl | rfl | rfl : i = 0 ∨ i = 1 ∨ i = 2 := by omega
      · exact h.1
      · exact h.2.1
      · exact h.2.2)
  · refine .inl (hq.pos ?_)
    have hpd := (symZ_sz l).pd p (by omega)
    have e : (dotR 3 (fun t => (p t : Rat) / 60) fun i => dotR 3 (fun t => (symZ l i t : Rat) / 3600) fun t => (p t : Rat) / 60) = (qZ (symZ l) p : Rat) / ((12960000 : Int) : Rat) := by
      rw [dot3, dot3, dot3, dot3, (symZ_sz l).sym 0 1, (symZ_sz l).sym 0 2, (symZ_sz l).sym 1 2]
      unfold qZ
      push_cast
      grind
    rw [e]
    exact rat_pos hpd (by decide)
theorem fac2 {X : Nat → Nat → FQ} {a b c : Int} (ha : 0 < a) (hd : 0 < a * c - b * b) (sa : a.natAbs ≤ 2 ^ 23) (sb : b.natAbs ≤ 2 ^ 23) (sc : c.natAbs ≤ 2 ^ 23) (h00 : FV (X 0 0) ((a : Rat) / 3600) 23) (h10 : FV (X 1 0) ((b : Rat) / 3600) 23) (h01 : X 0 1 = X 1 0) (h11 : FV (X 1 1) ((c : Rat) / 3600) 23) : (facR (gM 2 2 X)).2.2 = true := by
  have hgd : ∀ i j, i < 2 → j < 2 → (X i j).good = true := fun i j hi hj => by
    obtain rfl | rfl : i = 0 ∨ i = 1 := by omega
    all_goals (obtain rfl | rfl : j = 0 ∨ j = 1 := by omega)
    · exact h00.good
    · rw [h01]; exact h10.good
    · exact h10.good
    · exact h11.good
  have hg := gM_good (n := 2) (c := 2) (X := X) (by omega) (by omega) hgd
  have hs : symM (gM 2 2 X) = true := by
    unfold symM
    rw [good_ok hg, Bool.true_and, decide_eq_true_eq, gM_tr (by omega) (by omega) hgd]
    refine gM_congr fun i j hi hj => ?_
    obtain rfl | rfl : i = 0 ∨ i = 1 := by omega
    all_goals (obtain rfl | rfl : j = 0 ∨ j = 1 := by omega)
    · rfl
    · exact h01
    · exact h01.symm
    · rfl
  obtain ⟨N, hN⟩ : ∃ N, N = (gM 2 2 X).at 2 := ⟨_, rfl⟩
  have n00 : FV (N 0 0) ((a : Rat) / 3600) 23 := by rw [hN, gM_at (by omega) (by omega)]; exact h00
  have n10 : FV (N 1 0) ((b : Rat) / 3600) 23 := by rw [hN, gM_at (by omega) (by omega)]; exact h10
  have n11 : FV (N 1 1) ((c : Rat) / 3600) 23 := by rw [hN, gM_at (by omega) (by omega)]; exact h11
  obtain ⟨B, hB⟩ : ∃ B : Nat → FQ, B = fun _ => FQ.bad := ⟨_, rfl⟩
  have x0 : FV (fcX N idM B 0) ((a : Rat) / 3600) 23 := n00
  have p0 : (0 : Rat) < (a : Rat) / 3600 := rat_pos ha (show (0 : Int) < 3600 by decide)
  have ha0 := cast_ne ha
  obtain ⟨L1, hL1⟩ : ∃ L1, L1 = fcL N idM B 0 := ⟨_, rfl⟩
  obtain ⟨D1, hD1⟩ : ∃ D1, D1 = fcD N idM B 0 := ⟨_, rfl⟩
  have l0 : FV (L1 1 0) ((b : Rat) / (a : Rat)) 23 := by
    rw [hL1]; unfold fcL
    rw [if_pos ⟨rfl, by omega⟩]
    have q : FV ((N 1 0).div (fcX N idM B 0)) _ _ := n10.div x0 (by intro q; rw [q] at p0; exact absurd p0 (by decide)) (by omega)
    exact q.val (by grind) (Sz.quo sb ha sa)
  have st0 : facStep 2 N ⟨idM, B⟩ 0 = some ⟨L1, D1⟩ := by
    rw [hL1, hD1]; unfold facStep
    refine if_pos ⟨x0.good, x0.pos p0, fun i hi h => ?_⟩
    obtain rfl : i = 1 := by omega
    rw [← hL1]; exact l0.good
  have vd0 : FV (D1 0) ((a : Rat) / 3600) 23 := by rw [hD1]; unfold fcD; rw [if_pos rfl]; exact x0
  have x1 : FV (fcX N L1 D1 1) (((a * c - b * b : Int) : Rat) / ((3600 * a : Int) : Rat)) (23 + (23 + 23 + 23) + 1) := by
    have q : FV ((N 1 1).sub (((L1 1 0).mul (L1 1 0)).mul (D1 0))) _ _ := n11.sub ((l0.mul l0 (by omega)).mul vd0 (by omega)) (by omega)
    have e : (c : Rat) / 3600 - (b : Rat) / (a : Rat) * ((b : Rat) / (a : Rat)) * ((a : Rat) / 3600) = ((a * c - b * b : Int) : Rat) / ((3600 * a : Int) : Rat) := by push_cast; grind
    rw [← e]; exact q
  have p1 : (0 : Rat) < ((a * c - b * b : Int) : Rat) / ((3600 * a : Int) : Rat) := rat_pos hd (by omega)
  have st1 : facStep 2 N ⟨L1, D1⟩ 1 = some ⟨fcL N L1 D1 1, fcD N L1 D1 1⟩ := by
    unfold facStep
    exact if_pos ⟨x1.good, x1.pos p1, fun i hi h => by omega⟩
  have hto : facTo 2 N 2 = some ⟨fcL N L1 D1 1, fcD N L1 D1 1⟩ := by
    show (match (match (some ⟨idM, fun _ => FQ.bad⟩ : Option FS) with | none => none | some s => facStep 2 N s 0) with | none => none | some s => facStep 2 N s 1) = _
    rw [← hB]
    show (match facStep 2 N ⟨idM, B⟩ 0 with | none => none | some s => facStep 2 N s 1) = _
    rw [st0]
    exact st1
  unfold facR
  rw [if_pos hs]
  show (facN 2 ((gM 2 2 X).at 2)).2.2 = true
  rw [← hN, facN_some hto]
def sel2 (i : Nat) : Nat := if i = 0 then 0 else 2
theorem part_facts (l : List Int) : subM (symMD l) [0, 2] = (gM 2 2 fun i j => symG l 3 (sel2 i) (sel2 j), true) ∧ (facR (gM 2 2 fun i j => symG l 3 (sel2 i) (sel2 j))).2.2 = true := by
  have hg := symMD_good l
  have hZ := symZ_sz l
  constructor
  · rw [subM_ok (by rw [good_ok hg]; rfl)]
    refine congrArg (fun L : List RD => ((⟨2, 2, L⟩ : MD), true)) (gridL_qd fun i k hi hk => ?_).symm
    have hi : i < 2 := hi
    have hk : k < 2 := hk
    obtain rfl | rfl : i = 0 ∨ i = 1 := by omega
    all_goals (obtain rfl | rfl : k = 0 ∨ k = 1 := by omega)
    · show qd (symG l 3 0 0) = _; rw [← symMD_at l (by omega) (by omega)]; exact (MD.at_ok hg (by omega) (by omega)).2
    · show qd (symG l 3 0 2) = _; rw [← symMD_at l (by omega) (by omega)]; exact (MD.at_ok hg (by omega) (by omega)).2
    · show qd (symG l 3 2 0) = _; rw [← symMD_at l (by omega) (by omega)]; exact (MD.at_ok hg (by omega) (by omega)).2
    · show qd (symG l 3 2 2) = _; rw [← symMD_at l (by omega) (by omega)]; exact (MD.at_ok hg (by omega) (by omega)).2
  · have h2 : 0 < symZ l 0 0 * symZ l 2 2 - symZ l 2 0 * symZ l 2 0 := by
      have h0 := hZ.p0
      have := hZ.pd (tri (-symZ l 2 0) 0 (symZ l 0 0)) (.inr (.inr (by show symZ l 0 0 ≠ 0; omega)))
      have e : qZ (symZ l) (tri (-symZ l 2 0) 0 (symZ l 0 0)) = symZ l 0 0 * (symZ l 0 0 * symZ l 2 2 - symZ l 2 0 * symZ l 2 0) := by simp [qZ, tri]; grind
      rw [e] at this
      exact pos_right h0 this
    exact fac2 hZ.p0 h2 (hZ.le 0 0 (by omega) (by omega)) (hZ.le 2 0 (by omega) (by omega)) (hZ.le 2 2 (by omega) (by omega)) (symG_23 l 0 0 (by omega) (by omega)) (symG_23 l 2 0 (by omega) (by omega))
      ((symG_23 l 0 2 (by omega) (by omega)).eq (symG_23 l 2 0 (by omega) (by omega)) (by rw [hZ.sym 0 2])) (symG_23 l 2 2 (by omega) (by omega))
end Go.Proofs.YtikmepdhpffdoaaGreat
