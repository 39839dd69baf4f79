/- part of the proof -/
import Derived.Test.YtgkimfncegbeaaaTZb
import Derived.Test.YtgkimfncegbeaaaTRd
import Derived.Test.YtgkimfncegbeaaaTSa
namespace Go.Proofs.Ytgkimfncegbeaaa
open Go Go.RowKit
set_option maxRecDepth 100000
set_option maxHeartbeats 4000000
set_option linter.unusedVariables false
set_option linter.unusedSimpArgs false
theorem dot_sm {c : Nat} {u y : Nat → Rat} : dotR c u y = sm c (fun j => u j * y j) := by
  induction c with
  | zero => rfl
  | succ c ih => unfold dotR sm; rw [ih]
theorem nulK_cnt {p : List Int} {c : Nat} (hp : PvOk p c) : ∀ k, k ≤ c → ∃ t, t ≤ p.length ∧ (∀ i, i < t → p.getD i 0 < (k : Int)) ∧ (∀ i, t ≤ i → i < p.length → (k : Int) ≤ p.getD i 0) ∧ (nulK p k).length + t = k
  | 0, _ => ⟨0, by omega, fun i hi => by omega, fun i _ hi => (hp.1 i hi).1, rfl⟩
  | k + 1, hk => by
    obtain ⟨t, h1, h2, h3, h4⟩ := nulK_cnt hp k (by omega)
    rcases hx : pix p k 0 p.length with _ | j
    · refine ⟨t, h1, fun i hi => by have := h2 i hi; omega, fun i hi hl => ?_, by rw [nulK_yes hx, List.length_append]; simp only [List.length_cons, List.length_nil]; omega⟩
      have := h3 i hi hl
      have := pix_none.1 hx i (by omega) (by omega)
      omega
    · obtain ⟨_, j2, j3⟩ := pix_some hx
      have hjt : j = t := by
        rcases Nat.lt_trichotomy j t with q | q | q
        · have := h2 j q; omega
        · exact q
        · have := h3 t (Nat.le_refl _) (by omega)
          have := hp.2 t j q (by omega)
          omega
      subst hjt
      refine ⟨j + 1, by omega, fun i hi => ?_, fun i hi hl => ?_, by rw [nulK_no hx]; omega⟩
      · rcases Nat.lt_or_eq_of_le (Nat.le_of_lt_succ hi) with q | q
        · have := h2 i q; omega
        · subst q; omega
      · have := hp.2 j i (by omega) hl; omega
theorem nulL_all {p : List Int} {A : Nat → Nat → FQ} {c : Nat} (hp : PvOk p c) : (nulL p A c c).length + p.length = c := by
  obtain ⟨t, h1, h2, h3, h4⟩ := nulK_cnt hp c (Nat.le_refl _)
  have : t = p.length := by
    rcases Nat.lt_or_eq_of_le h1 with q | q
    · have := h3 t (Nat.le_refl _) q
      have := (hp.1 t q).2
      omega
    · exact q
  unfold nulL
  rw [List.length_map]; omega
theorem piv_get {p : List Int} {c i : Nat} (hp : PvOk p c) (h : i < p.length) : ∃ j : Nat, p.getD i 0 = (j : Int) ∧ j < c ∧ p[i]? = some (j : Int) := by
  have := hp.1 i h
  refine ⟨(p.getD i 0).toNat, by omega, by omega, ?_⟩
  rw [show (((p.getD i 0).toNat : Nat) : Int) = p.getD i 0 by omega, List.getD_eq_getElem?_getD, List.getElem?_eq_getElem h]; rfl
def nulY (p : List Int) (R : Nat → Nat → Rat) (k : Nat) : Nat → Rat := fun c => match pix p c 0 p.length with
  | some i => -R i k
  | none => if c = k then 1 else 0
theorem nul_ker {n c K0 : Nat} {A R : Nat → Nat → Rat} {st : RS} (h : GJ n c c K0 A R st) (hp : PvOk st.piv c) {k : Nat} (hk : k < c) (hx : pix st.piv k 0 st.piv.length = none) : ∀ i, i < n → dotR c (A i) (nulY st.piv R k) = 0 := by
  refine (h.ker _).1 fun i hi => ?_
  rw [dot_sm]
  by_cases hl : i < st.piv.length
  · obtain ⟨q, e1, e2, e3⟩ := piv_get hp hl
    have hqk : q ≠ k := by
      have := pix_none.1 hx i (by omega) (by omega)
      omega
    have key : ∀ j, j < c → R i j * nulY st.piv R k j = (if j = k then R i k else 0) + (if j = q then -R i k else 0) := by
      intro j hj
      unfold nulY
      rcases hj' : pix st.piv j 0 st.piv.length with _ | t
      · have hjq : j ≠ q := by
          have := pix_none.1 hj' i (by omega) (by omega)
          omega
        simp only
        rw [if_neg hjq]
        by_cases e : j = k
        · subst e; rw [if_pos rfl, if_pos rfl]; grind
        · rw [if_neg e, if_neg e]; grind
      · obtain ⟨_, t2, t3⟩ := pix_some hj'
        obtain ⟨q', f1, f2, f3⟩ := piv_get hp (i := t) (by omega)
        have hq' : q' = j := by omega
        subst hq'
        have hu := h.unit t q' f3 i hi
        simp only
        rw [hu]
        have hjk : q' ≠ k := fun e => by subst e; rw [hx] at hj'; cases hj'
        rw [if_neg hjk]
        by_cases e : i = t
        · subst e
          rw [if_pos rfl, if_pos (by omega)]; grind
        · rw [if_neg e]
          have : q' ≠ q := fun e' => by
            rcases Nat.lt_trichotomy i t with w | w | w
            · have := hp.2 i t w (by omega); omega
            · exact e w
            · have := hp.2 t i w hl; omega
          rw [if_neg this]; grind
    rw [sm_congr key, sm_add, sm_ite hk, sm_ite e2]; grind
  · refine sm_zero fun j hj => ?_
    rw [h.zero i j (by omega) hi hj, Rat.zero_mul]
theorem nul_val {n c K0 : Nat} {A R : Nat → Nat → Rat} {st : RS} (h : GJ n c c K0 A R st) {k : Nat} (hk : k < c) (j : Nat) : FV (nulF st.piv st.M k j) (nulY st.piv R k j) (Kt K0 st.piv.length) := by
  unfold nulF nulY
  rcases hj : pix st.piv j 0 st.piv.length with _ | t
  · simp only
    split
    · exact (FV.ofInt (z := 1) (k := 0) (by decide) (by decide)).mono (by omega)
    · exact (FV.ofInt (z := 0) (k := 0) (by decide) (by decide)).mono (by omega)
  · have t2 := (pix_some hj).2.1
    have := h.pl
    exact (h.val t k (by omega) hk).neg
structure Rf (n c : Nat) (M : Nat → Nat → FQ) (p : List Int) : Prop where
  good : ∀ i j, i < n → j < c → (M i j).good = true
  pv : PvOk p c
  pl : p.length ≤ n
  unit : ∀ t, t < p.length → ∀ i, i < n → (M i (p.getD t 0).toNat).1 = some (if i = t then 1 else 0)
  ech : ∀ t, t < p.length → ∀ j : Nat, (j : Int) < p.getD t 0 → (M t j).num = 0
  zero : ∀ i j, p.length ≤ i → i < n → j < c → (M i j).num = 0
theorem div_one' {x y : FQ} (hx : x.good = true) (hy : y.1 = some 1) : x.div y = x := by
  obtain ⟨r, hr⟩ := good_some hx
  apply FQ.ext
  have e := FQ.mk_of hr
  conv => rhs; rw [e]
  unfold FQ.div
  rw [hr, hy]
  simp only
  rw [if_neg (by decide), Rat.div_def, show (1 : Rat)⁻¹ = 1 by rw [← Rat.one_mul (1 : Rat)⁻¹, Rat.mul_inv_cancel _ (by decide)], Rat.mul_one]
theorem num_one {x : FQ} (h : x.1 = some 1) : x.num ≠ 0 := by rw [num_of h]; decide
theorem num_nil {x : FQ} (h : x.1 = some 0) : x.num = 0 := by rw [num_of h]; rfl
theorem Rf.to {n c : Nat} {M : Nat → Nat → FQ} {p : List Int} (h : Rf n c M p) : ∀ {k : Nat}, k ≤ c →
    ∃ a t, redTo n c M k = some a ∧ t ≤ p.length ∧ a.piv = p.take t ∧ (∀ i, i < t → p.getD i 0 < (k : Int)) ∧ (∀ i, t ≤ i → i < p.length → (k : Int) ≤ p.getD i 0) ∧ ∀ i j, i < n → j < c → a.M i j = M i j
  | 0, _ => ⟨_, 0, rfl, by omega, rfl, fun i hi => by omega, fun i _ hi => (h.pv.1 i hi).1, fun _ _ _ _ => rfl⟩
  | k + 1, hk => by
    obtain ⟨a, t, e, h1, h2, h3, h4, h5⟩ := h.to (k := k) (by omega)
    have hal : a.piv.length = t := by rw [h2, List.length_take]; omega
    have hpl := h.pl
    unfold redTo
    rw [e]
    simp only
    by_cases hn : a.piv.length < n
    · rw [if_pos hn]
      unfold redStep
      by_cases hpk : t < p.length ∧ p.getD t 0 = (k : Int)
      · obtain ⟨q1, q2⟩ := hpk
        have hu := h.unit t q1
        rw [q2, Int.toNat_natCast] at hu
        have htn : t < n := by omega
        have hMt : (M t k).1 = some 1 := by rw [hu t htn, if_pos rfl]
        have hf : firstR a.M k a.piv.length n = t := firstR_eq ⟨by omega, by omega, fun i hi1 hi2 => by omega, fun _ => by rw [h5 t k htn (by omega)]; exact num_one hMt⟩
        rw [hf, if_neg (by omega), hal]
        have hsw : swapM a.M t t = a.M := by
          funext i
          unfold swapM
          split
          · rename_i q; rw [q]
          · rfl
        rw [hsw]
        have hcl : ∀ i j, i < n → j < c → clrM a.M t k i j = M i j := by
          intro i j hi hj
          unfold clrM divM
          by_cases q : i = t
          · rw [if_pos q, h5 t j htn hj, h5 t k htn (by omega), div_one' (h.good t j htn hj) hMt, q]
          · rw [if_neg q]
            have : (a.M i k).num = 0 := by rw [h5 i k hi (by omega)]; exact num_nil (by rw [hu i hi, if_neg q])
            rw [if_pos this, h5 i j hi hj]
        have hall : allG (gridL n c (clrM a.M t k)) = true := gridL_all fun i j hi hj => by rw [hcl i j hi hj]; exact h.good i j hi hj
        simp only
        rw [if_pos hall]
        refine ⟨_, t + 1, rfl, by omega, ?_, fun i hi => ?_, fun i hi hl => ?_, hcl⟩
        · show a.piv ++ [(k : Int)] = _
          rw [h2, List.take_succ_eq_append_getElem q1]
          congr 2
          rw [← q2, List.getD_eq_getElem?_getD, List.getElem?_eq_getElem q1]; rfl
        · rcases Nat.lt_or_eq_of_le (Nat.le_of_lt_succ hi) with w | w
          · have := h3 i w; omega
          · subst w; omega
        · have := h.pv.2 t i (by omega) hl; omega
      · have hno : ∀ i, t ≤ i → i < p.length → ((k + 1 : Nat) : Int) ≤ p.getD i 0 := by
          intro i hi hl
          have a1 := h4 t (Nat.le_refl _) (by omega)
          have a2 : p.getD t 0 ≠ (k : Int) := fun q => hpk ⟨by omega, q⟩
          rcases Nat.lt_or_eq_of_le hi with w | w
          · have := h.pv.2 t i w hl; omega
          · subst w; omega
        have hf : firstR a.M k a.piv.length n = n := firstR_eq ⟨by omega, Nat.le_refl _, fun i hi1 hi2 => by
          rw [h5 i k hi2 (by omega)]
          by_cases w : i < p.length
          · exact h.ech i w k (by have := hno i (by omega) w; omega)
          · exact h.zero i k (by omega) hi2 (by omega), fun q => by omega⟩
        rw [if_pos hf]
        exact ⟨a, t, rfl, h1, h2, fun i hi => by have := h3 i hi; omega, hno, h5⟩
    · rw [if_neg hn]
      exact ⟨a, t, rfl, h1, h2, fun i hi => by have := h3 i hi; omega, fun i hi hl => by omega, h5⟩
theorem Rf.of {n c K0 : Nat} {A R : Nat → Nat → Rat} {st : RS} (h : GJ n c c K0 A R st) (hp : PvOk st.piv c) : Rf n c st.M st.piv where
  good i j hi hj := (h.val i j hi hj).good
  pv := hp
  pl := h.pl
  unit t ht i hi := by
    obtain ⟨q, e1, e2, e3⟩ := piv_get hp ht
    rw [e1, Int.toNat_natCast, (h.val i q hi e2).v, h.unit t q e3 i hi]
  ech t ht j hj := by
    obtain ⟨q, e1, e2, e3⟩ := piv_get hp ht
    have := h.pl
    exact (h.val t j (by omega) (by omega)).num.2 (h.ech t q e3 j (by omega))
  zero i j h1 h2 h3 := (h.val i j h2 h3).num.2 (h.zero i j h1 h2 h3)
theorem Rf.all {n c : Nat} {M : Nat → Nat → FQ} {p : List Int} (h : Rf n c M p) : ∃ a, redTo n c M c = some a ∧ a.piv = p := by
  obtain ⟨a, t, e, h1, h2, h3, h4, h5⟩ := h.to (Nat.le_refl c)
  refine ⟨a, e, ?_⟩
  have : t = p.length := by
    rcases Nat.lt_or_eq_of_le h1 with q | q
    · have := h4 t (Nat.le_refl _) q
      have := (h.pv.1 t q).2
      omega
    · exact q
  rw [h2, this, List.take_length]
theorem redQ_of {n c : Nat} {M : Nat → Nat → FQ} (hg : ∀ i j, i < n → j < c → (M i j).good = true) {a : RS} (e : redTo n c M c = some a) : redQ n c M = (⟨n, c, (gridL n c a.M).map qd⟩, a.piv, true) := by
  rcases to_same hg (Nat.le_refl c) with ⟨a', e', hS⟩ | ⟨e', _, _⟩
  · rw [e] at e'
    obtain rfl := Option.some.inj e'
    have hcl : gridL n c (refTo n c M c).M = gridL n c a.M := gridL_congr fun i j hi hj => (hS.m i j hi hj).symm
    unfold redQ
    rw [hcl, if_pos (gridL_all fun i j hi hj => hS.good i j hi hj), hS.piv]
  · rw [e] at e'; cases e'
theorem null_facts (m : MD) (hg : m.Good 2 4) (A : Nat → Nat → Rat) (hA : ∀ i j, i < 2 → j < 4 → FV (m.at 4 i j) (A i j) 5) :
    ∃ (L : List (List FQ)) (M : MD) (p : List Int), nvR m = (L.map fun l => l.map qd, true) ∧ redR m = (M, p, true) ∧ L.length + p.length = 4 ∧ smallL M.cells ∧ (redR M).2.2 = true ∧ (redR M).2.1.length = p.length ∧
      ∀ l ∈ L, l.length = 4 ∧ applyQ m (l.map qd) = (rowQ 2 fun _ => FQ.ofInt 0, true) := by
  have hgd : ∀ i j, i < 2 → j < 4 → (m.at 4 i j).good = true := fun i j hi hj => (hA i j hi hj).good
  obtain ⟨a, R, e, hG⟩ := GJ.to hA (by decide) (by decide) (Nat.le_refl 4)
  have hpv := redTo_pv e
  have hrf := Rf.of hG hpv
  have hgM : (⟨2, 4, (gridL 2 4 a.M).map qd⟩ : MD).Good 2 4 := grid_good (n := 2) (c := 4) (by omega) (by omega) hrf.good
  have hatM : ∀ i j, i < 2 → j < 4 → (⟨2, 4, (gridL 2 4 a.M).map qd⟩ : MD).at 4 i j = a.M i j := fun i j hi hj => grid_at (n := 2) (c := 4) hi hj
  obtain ⟨N, hN⟩ : ∃ N : MD, N = ⟨2, 4, (gridL 2 4 a.M).map qd⟩ := ⟨_, rfl⟩
  rw [← hN] at hgM hatM
  have hrf2 : Rf 2 4 (N.at 4) a.piv := ⟨fun i j hi hj => by rw [hatM i j hi hj]; exact hrf.good i j hi hj, hpv, hrf.pl, fun t ht i hi => by
      have := hpv.1 t ht
      rw [hatM i _ hi (by omega)]; exact hrf.unit t ht i hi, fun t ht j hj => by
      have := hpv.1 t ht
      have := hrf.pl
      rw [hatM t j (by omega) (by omega)]; exact hrf.ech t ht j hj, fun i j h1 h2 h3 => by rw [hatM i j h2 h3]; exact hrf.zero i j h1 h2 h3⟩
  obtain ⟨b, e2, hb⟩ := hrf2.all
  have hR2 : redR N = (⟨2, 4, (gridL 2 4 b.M).map qd⟩, b.piv, true) := by
    rw [redR_ok (good_ok hgM) hgM]
    exact redQ_of hrf2.good e2
  refine ⟨nulL a.piv a.M 4 4, N, a.piv, ?_, ?_, nulL_all hpv, by rw [hN]; exact grid_small (by omega) (by omega), by rw [hR2], by rw [hR2]; show b.piv.length = _; rw [hb], ?_⟩
  · rw [nvR_ok (good_ok hg) hg]
    unfold nvQ; rw [e]
  · rw [redR_ok (good_ok hg) hg, redQ_of hgd e, hN]; rfl
  · intro l hl
    obtain ⟨k, hk, rfl⟩ := List.mem_map.1 hl
    have hk4 := nulK_lt hk
    have hx : pix a.piv k 0 a.piv.length = none := by
      unfold nulK at hk
      have := (List.mem_filter.1 hk).2
      simpa using this
    refine ⟨rowQ_length, ?_⟩
    have hpl := hG.pl
    have hKt : Kt 5 a.piv.length ≤ 85 := Kt_le (K0 := 5) (t := 2) hpl
    obtain ⟨g, h1, h2⟩ := apply_val (k := 5) (l := 85) (v := nulY a.piv R k) (x := rowQ 4 (nulF a.piv a.M k)) hg hA rowQ_length (fun j hj => by rw [rowQ_get hj]; exact (nul_val hG hk4 j).mono hKt) (by decide)
    rw [h1]
    have : rowQ 2 g = rowQ 2 fun _ => FQ.ofInt 0 := rowQ_congr fun i hi => (h2 i hi).eq (FV.ofInt (z := 0) (k := 0) (by decide) (by decide)) (by rw [nul_ker hG hpv hk4 hx i hi]; rfl)
    rw [this]
end Go.Proofs.Ytgkimfncegbeaaa
