/- part of the proof -/
import Derived.Test.YtchlpclgkhggeaaTSe
namespace Go.Proofs.Ytchlpclgkhggeaa
set_option linter.unusedVariables false
set_option linter.unusedSimpArgs false
def gv (m : Nat) (C : Nat → Nat → Rat) (t : Tb) (j : Nat) : Nat → Rat := fun l => gain m t (C l) j
structure Ent (m N L : Nat) (C : Nat → Nat → Rat) (fr : Nat → Prop) (t : Tb) (k : Nat) : Prop where
  lt : k < N
  free : fr k
  nb : ¬ Bas m t k
  pos : Pos L (gv m C t k)
  first : ∀ j, j < k → fr j → ¬ Bas m t j → ¬ Pos L (gv m C t j)
structure Lve (m N : Nat) (t : Tb) (k r : Nat) : Prop where
  lt : r < m
  pos : 0 < t.A r k
  min : ∀ i, i < m → 0 < t.A i k → t.A r N * t.A i k ≤ t.A i N * t.A r k
  tie : ∀ i, i < m → 0 < t.A i k → t.A r N * t.A i k = t.A i N * t.A r k → t.β r ≤ t.β i
structure Step (m N L : Nat) (C : Nat → Nat → Rat) (fr : Nat → Prop) (t : Tb) (k r : Nat) (t' : Tb) : Prop where
  ent : Ent m N L C fr t k
  lve : Lve m N t k r
  e : t' = t.piv r k
def Fea (m N : Nat) (t : Tb) : Prop := ∀ i, i < m → 0 ≤ t.A i N
theorem pos_ne {a : Rat} (h : 0 < a) : a ≠ 0 := by grind
theorem div_nonneg' {a b : Rat} (ha : 0 ≤ a) (hb : 0 < b) : 0 ≤ a / b := by
  rw [Rat.div_def]; exact Rat.mul_nonneg ha (by have := Rat.inv_pos.2 hb; grind)
theorem mul_div_self {a b : Rat} (hb : b ≠ 0) : a / b * b = a := by
  rw [Rat.div_def, Rat.mul_assoc, Rat.inv_mul_cancel _ hb, Rat.mul_one]
theorem le_of_mul {a b c : Rat} (hc : 0 < c) (h : a * c ≤ b * c) : a ≤ b := by
  rcases rlt_or_le b a with q | q
  · exfalso
    have : 0 < (a - b) * c := Rat.mul_pos (by grind) hc
    grind
  · exact q
theorem Fea.piv {m N : Nat} {t : Tb} {r k : Nat} (h : Fea m N t) (hl : Lve m N t k r) : Fea m N (t.piv r k) := by
  intro i hi
  have hp := hl.pos
  have hq : 0 ≤ t.q r k N := div_nonneg' (h r hl.lt) hp
  show 0 ≤ if i = r then t.q r k N else t.A i N - t.A i k * t.q r k N
  by_cases e : i = r
  · rw [if_pos e]; exact hq
  · rw [if_neg e]
    rcases rlt_or_le 0 (t.A i k) with q | q
    · have h1 := hl.min i hi q
      have h2 : t.A i k * t.q r k N * t.A r k = t.A i k * t.A r N := by
        unfold Tb.q
        rw [Rat.mul_assoc, mul_div_self (pos_ne hp)]
      have : t.A i k * t.q r k N ≤ t.A i N := le_of_mul hp (by rw [h2]; grind)
      grind
    · have h1 := h i hi
      have : 0 ≤ -t.A i k * t.q r k N := Rat.mul_nonneg (by grind) hq
      grind
section
variable {m N L : Nat} {C : Nat → Nat → Rat} {fr : Nat → Prop}
theorem Step.val {t t' : Tb} {k r : Nat} (h : Tab m N t) (s : Step m N L C fr t k r t') (l : Nat) : val m N t' (C l) - val m N t (C l) = gv m C t k l * t.q r k N := by
  rw [s.e, piv_val h s.lve.lt (pos_ne s.lve.pos)]
  unfold gv
  grind
theorem Step.bas {t t' : Tb} {k r j : Nat} (s : Step m N L C fr t k r t') : Bas m t' j ↔ j = k ∨ (Bas m t j ∧ t.β r ≠ j) ∨ ∃ i, i < m ∧ i ≠ r ∧ t.β i = j := by
  have hr := s.lve.lt
  rw [s.e]
  constructor
  · rintro ⟨i, hi, e⟩
    have e : (if i = r then k else t.β i) = j := e
    by_cases q : i = r
    · rw [if_pos q] at e; exact .inl e.symm
    · rw [if_neg q] at e; exact .inr (.inr ⟨i, hi, q, e⟩)
  · rintro (rfl | ⟨⟨i, hi, e⟩, hne⟩ | ⟨i, hi, q, e⟩)
    · exact ⟨r, hr, if_pos rfl⟩
    · have q : i ≠ r := fun q => hne (by rw [← q]; exact e)
      exact ⟨i, hi, by show (if i = r then k else t.β i) = j; rw [if_neg q]; exact e⟩
    · exact ⟨i, hi, by show (if i = r then k else t.β i) = j; rw [if_neg q]; exact e⟩
theorem Step.bas_stay {t t' : Tb} {k r j : Nat} (s : Step m N L C fr t k r t') (h : Bas m t j) (hne : t.β r ≠ j) : Bas m t' j := s.bas.2 (.inr (.inl ⟨h, hne⟩))
theorem Step.bas_back {t t' : Tb} {k r j : Nat} (s : Step m N L C fr t k r t') (h : Bas m t' j) (hne : j ≠ k) : Bas m t j := by
  rcases s.bas.1 h with q | q | ⟨i, hi, _, e⟩
  · exact absurd q hne
  · exact q.1
  · exact ⟨i, hi, e⟩
theorem Step.pt_eq {t t' : Tb} {k r : Nat} (h : Tab m N t) (s : Step m N L C fr t k r t') (h0 : t.q r k N = 0) (j : Nat) : pt m N t' j = pt m N t j := by
  have hr := s.lve.lt
  have hz : t.A r N = 0 := by
    have := mul_div_self (a := t.A r N) (pos_ne s.lve.pos)
    have h0 : t.A r N / t.A r k = 0 := h0
    rw [h0] at this; grind
  have h' : Tab m N t' := by rw [s.e]; exact h.piv hr s.ent.lt (pos_ne s.lve.pos)
  have hrow : ∀ i, i < m → t'.A i N = t.A i N := by
    intro i hi
    rw [s.e]
    show (if i = r then t.q r k N else t.A i N - t.A i k * t.q r k N) = _
    by_cases e : i = r
    · rw [if_pos e, h0, e, hz]
    · rw [if_neg e, h0]; grind
  have hβ : ∀ i, i ≠ r → t'.β i = t.β i := fun i hi => by rw [s.e]; exact if_neg hi
  have hβr : t'.β r = k := by rw [s.e]; exact if_pos rfl
  unfold pt
  refine sm_congr fun i hi => ?_
  rw [hrow i hi]
  by_cases e : i = r
  · subst e; rw [hz]; simp
  · rw [hβ i e]
theorem Step.tab {t t' : Tb} {k r : Nat} (h : Tab m N t) (s : Step m N L C fr t k r t') : Tab m N t' := by
  rw [s.e]; exact h.piv s.lve.lt s.ent.lt (pos_ne s.lve.pos)
theorem Step.fea {t t' : Tb} {k r : Nat} (h : Fea m N t) (s : Step m N L C fr t k r t') : Fea m N t' := by
  rw [s.e]; exact h.piv s.lve
theorem Step.hom {t t' : Tb} {k r : Nat} (s : Step m N L C fr t k r t') {x : Nat → Rat} : Hom m N t.A x ↔ Hom m N t'.A x := by
  rw [s.e]; exact piv_hom s.lve.lt (pos_ne s.lve.pos)
theorem Step.sol {t t' : Tb} {k r : Nat} (s : Step m N L C fr t k r t') {x : Nat → Rat} : Sol m N t.A x ↔ Sol m N t'.A x := by
  rw [s.e]; exact piv_sol s.lve.lt (pos_ne s.lve.pos)
end
structure Cyc (m N L : Nat) (C : Nat → Nat → Rat) (fr : Nat → Prop) (st : Nat → Tb) (kk rr : Nat → Nat) (p : Nat) : Prop where
  pos : 0 < p
  step : ∀ n, n < p → Step m N L C fr (st n) (kk n) (rr n) (st (n + 1))
  tab : Tab m N (st 0)
  fea : Fea m N (st 0)
  same : ∀ i, i < m → (st p).β i = (st 0).β i
theorem tab_uniq {m N : Nat} {t u : Tb} (h : Tab m N t) (g : Tab m N u) (hs : ∀ x, Sol m N t.A x ↔ Sol m N u.A x) (hβ : ∀ i, i < m → u.β i = t.β i) : (∀ i, i < m → u.A i N = t.A i N) := by
  intro i hi
  have h1 := (hs _).1 (pt_sol h) i hi
  have h2 : sm N (fun j => u.A i j * pt m N t j) = t.A i N := by
    have e : ∀ j, j < N → u.A i j * pt m N t j = u.A i j * sm m (fun k => if u.β k = j then t.A k N else 0) := by
      intro j _
      congr 1
      unfold pt
      exact sm_congr fun k hk => by rw [hβ k hk]
    rw [sm_congr e]
    exact comb_sol g (d := fun k => t.A k N) hi
  rw [← h1, h2]
theorem max_exists {f : Nat → Nat} : ∀ {p : Nat}, 0 < p → ∃ e, e < p ∧ ∀ n, n < p → f n ≤ f e
  | 0, h => by omega
  | 1, _ => ⟨0, by omega, fun n hn => by obtain rfl : n = 0 := by omega
                                         exact Nat.le_refl _⟩
  | p + 2, _ => by
    obtain ⟨e, h1, h2⟩ := max_exists (f := f) (p := p + 1) (by omega)
    by_cases q : f e ≤ f (p + 1)
    · refine ⟨p + 1, by omega, fun n hn => ?_⟩
      by_cases hn' : n = p + 1
      · subst hn'; exact Nat.le_refl _
      · exact Nat.le_trans (h2 n (by omega)) q
    · refine ⟨e, by omega, fun n hn => ?_⟩
      by_cases hn' : n = p + 1
      · subst hn'; omega
      · exact h2 n (by omega)
theorem Cyc.false {m N L : Nat} {C : Nat → Nat → Rat} {fr : Nat → Prop} {st : Nat → Tb} {kk rr : Nat → Nat} {p : Nat} (h : Cyc m N L C fr st kk rr p) : False := by
  have tab : ∀ n, n ≤ p → Tab m N (st n) := fun n => by
    induction n with
    | zero => intro _; exact h.tab
    | succ n ih => intro hn; exact (h.step n (by omega)).tab (ih (by omega))
  have fea : ∀ n, n ≤ p → Fea m N (st n) := fun n => by
    induction n with
    | zero => intro _; exact h.fea
    | succ n ih => intro hn; exact (h.step n (by omega)).fea (ih (by omega))
  have hom : ∀ n, n ≤ p → ∀ x, Hom m N (st 0).A x ↔ Hom m N (st n).A x := fun n => by
    induction n with
    | zero => intro _ x; exact Iff.rfl
    | succ n ih => intro hn x; exact (ih (by omega) x).trans (h.step n (by omega)).hom
  have sol : ∀ n, n ≤ p → ∀ x, Sol m N (st 0).A x ↔ Sol m N (st n).A x := fun n => by
    induction n with
    | zero => intro _ x; exact Iff.rfl
    | succ n ih => intro hn x; exact (ih (by omega) x).trans (h.step n (by omega)).sol
  -- no step gains
  have hq0 : ∀ n, n < p → 0 ≤ (st n).q (rr n) (kk n) N := fun n hn => div_nonneg' (fea n (by omega) _ (h.step n hn).lve.lt) (h.step n hn).lve.pos
  have hval : ∀ l, val m N (st p) (C l) = val m N (st 0) (C l) := by
    intro l
    have hu := tab_uniq (tab 0 (by omega)) (tab p (Nat.le_refl _)) (sol p (Nat.le_refl _)) h.same
    unfold val
    exact sm_congr fun i hi => by rw [h.same i hi, hu i hi]
  have mono : ∀ n, n ≤ p → Nng L (fun l => val m N (st n) (C l) - val m N (st 0) (C l)) ∧ ((∃ i, i < n ∧ 0 < (st i).q (rr i) (kk i) N) → Pos L (fun l => val m N (st n) (C l) - val m N (st 0) (C l))) := by
    intro n
    induction n with
    | zero => intro _; exact ⟨.inr fun l _ => by grind, fun ⟨i, hi, _⟩ => by omega⟩
    | succ n ih =>
      intro hn
      obtain ⟨i1, i2⟩ := ih (by omega)
      have s := h.step n (by omega)
      have hs := s.val (tab n (by omega))
      have hpos := s.ent.pos
      rcases rlt_or_le 0 ((st n).q (rr n) (kk n) N) with q | q
      · have hp : Pos L (fun l => gv m C (st n) (kk n) l * (st n).q (rr n) (kk n) N) := hpos.smul q
        have key : Pos L (fun l => val m N (st (n + 1)) (C l) - val m N (st 0) (C l)) := by
          rcases i1 with i1 | i1
          · exact (hp.add i1).congr fun l _ => by have := hs l; grind
          · exact (hp.add_nul i1).congr fun l _ => by have := hs l; grind
        exact ⟨.inl key, fun _ => key⟩
      · have q : (st n).q (rr n) (kk n) N = 0 := by have := hq0 n (by omega); grind
        have e : ∀ l, val m N (st (n + 1)) (C l) = val m N (st n) (C l) := fun l => by have := hs l; rw [q] at this; grind
        refine ⟨?_, ?_⟩
        · rcases i1 with i1 | i1
          · exact .inl (i1.congr fun l _ => by rw [e l])
          · exact .inr fun l hl => by have := i1 l hl; show val m N (st (n + 1)) (C l) - _ = 0; rw [e l]; exact this
        · rintro ⟨i, hi, hpi⟩
          have hin : i < n := by
            rcases Nat.lt_or_eq_of_le (Nat.le_of_lt_succ hi) with h | h
            · exact h
            · subst h; rw [q] at hpi; grind
          exact (i2 ⟨i, hin, hpi⟩).congr fun l _ => by rw [e l]
  have deg : ∀ n, n < p → (st n).q (rr n) (kk n) N = 0 := by
    intro n hn
    rcases rlt_or_le 0 ((st n).q (rr n) (kk n) N) with q | q
    · exfalso
      exact ((mono p (Nat.le_refl _)).2 ⟨n, hn, q⟩).not_nul fun l _ => by show val m N (st p) (C l) - _ = 0; rw [hval l]; grind
    · have := hq0 n hn; grind
  have hpt : ∀ n, n ≤ p → ∀ j, pt m N (st n) j = pt m N (st 0) j := by
    intro n
    induction n with
    | zero => intro _ j; rfl
    | succ n ih => intro hn j; rw [(h.step n (by omega)).pt_eq (tab n (by omega)) (deg n (by omega)), ih (by omega)]
  -- basic columns
  have basp : ∀ j, Bas m (st p) j ↔ Bas m (st 0) j := fun j =>
    ⟨fun ⟨i, hi, e⟩ => ⟨i, hi, by rw [← h.same i hi]; exact e⟩, fun ⟨i, hi, e⟩ => ⟨i, hi, by rw [h.same i hi]; exact e⟩⟩
  have back : ∀ j, (∀ n, n < p → kk n ≠ j) → ∀ n n', n ≤ n' → n' ≤ p → Bas m (st n') j → Bas m (st n) j := by
    intro j hj n n' hn
    induction n' with
    | zero => intro _ hb; obtain rfl : n = 0 := by omega
              exact hb
    | succ n' ih =>
      intro hn' hb
      rcases Nat.lt_or_eq_of_le hn with q | rfl
      · exact ih (by omega) (by omega) ((h.step n' (by omega)).bas_back hb fun e => hj n' (by omega) e.symm)
      · exact hb
  -- the greatest column that enters
  obtain ⟨e, he, hmax⟩ := max_exists (f := kk) h.pos
  have se := h.step e he
  -- it leaves somewhere
  have leaves : ∃ q, q < p ∧ (st q).β (rr q) = kk e := by
    apply Classical.byContradiction
    intro hno
    have hno : ∀ q, q < p → (st q).β (rr q) ≠ kk e := fun q hq hh => hno ⟨q, hq, hh⟩
    have stay : ∀ n n', n ≤ n' → n' ≤ p → Bas m (st n) (kk e) → Bas m (st n') (kk e) := by
      intro n n' hn
      induction n' with
      | zero => intro _ hb; obtain rfl : n = 0 := by omega
                exact hb
      | succ n' ih =>
        intro hn' hb
        rcases Nat.lt_or_eq_of_le hn with q | rfl
        · exact (h.step n' (by omega)).bas_stay (ih (by omega) (by omega) hb) (hno n' (by omega))
        · exact hb
    have h1 : Bas m (st (e + 1)) (kk e) := se.bas.2 (.inl rfl)
    have h2 := stay (e + 1) p (by omega) (Nat.le_refl _) h1
    have h3 := stay 0 e (by omega) (by omega) ((basp _).1 h2)
    exact se.ent.nb h3
  obtain ⟨q, hq, hqe⟩ := leaves
  have sq := h.step q hq
  have tq := tab q (by omega)
  have te := tab e (by omega)
  have hsN := sq.ent.lt
  -- the direction of the column that enters at q
  have hhom : Hom m N (st e).A (ray m (st q) (kk q)) := (hom e (by omega) _).1 ((hom q (by omega) _).2 (ray_hom tq hsN))
  have hsum : ∀ l, gv m C (st q) (kk q) l = sm N (fun j => gv m C (st e) j l * ray m (st q) (kk q) j) := by
    intro l
    show gain m (st q) (C l) (kk q) = _
    rw [← ray_val tq hsN sq.ent.nb, obj_hom hhom]; rfl
  have hP : Pos L (fun l => sm N (fun j => gv m C (st e) j l * ray m (st q) (kk q) j)) := sq.ent.pos.congr fun l _ => hsum l
  obtain ⟨j, hj, hpj⟩ := hP.some
  have hnbe : ¬ Bas m (st e) j := by
    intro hb
    refine hpj.not_nul fun l _ => ?_
    show gain m (st e) (C l) j * _ = 0
    rw [gain_bas te hb, Rat.zero_mul]
  have hbq : j = kk q ∨ Bas m (st q) j := by
    apply Classical.byContradiction
    intro hno
    refine hpj.not_nul fun l _ => ?_
    show _ * ray m (st q) (kk q) j = 0
    rw [ray_non (fun e => hno (.inl e)) (fun e => hno (.inr e)), Rat.mul_zero]
  have hent : ∃ n, n < p ∧ kk n = j := by
    rcases hbq with rfl | hb
    · exact ⟨q, hq, rfl⟩
    · apply Classical.byContradiction
      intro hno
      have hno : ∀ n, n < p → kk n ≠ j := fun n hn hh => hno ⟨n, hn, hh⟩
      have h1 := back j hno 0 q (by omega) (by omega) hb
      exact hnbe (back j hno e p (by omega) (Nat.le_refl _) ((basp j).2 h1))
  obtain ⟨n, hn, rfl⟩ := hent
  have hle := hmax n hn
  have hfr := (h.step n hn).ent.free
  have hz : pt m N (st q) (kk n) = 0 := by
    rw [hpt q (by omega), ← hpt n (by omega)]
    exact pt_non (h.step n hn).ent.nb
  have hqr := sq.lve.lt
  have htq : Bas m (st q) (kk e) := ⟨rr q, hqr, hqe⟩
  have hts : kk e ≠ kk q := fun e' => sq.ent.nb (by rw [← e']; exact htq)
  by_cases hje : kk n = kk e
  · -- the greatest column itself: it leaves at q
    rw [hje] at hpj
    have hy : ray m (st q) (kk q) (kk e) = -(st q).A (rr q) (kk q) := by
      rw [← hqe]; exact ray_bas tq hqr (by rw [hqe]; exact hts)
    rw [hy] at hpj
    have h1 : Pos L (fun l => gv m C (st e) (kk e) l * (st q).A (rr q) (kk q)) := se.ent.pos.smul sq.lve.pos
    exact h1.asymm (hpj.congr fun l _ => by grind)
  · have hlt : kk n < kk e := by omega
    have hnp := se.ent.first (kk n) hlt hfr hnbe
    rcases hbq with hjs | hb
    · rw [hjs] at hpj hnp
      rw [ray_self sq.ent.nb] at hpj
      exact hnp (hpj.congr fun l _ => by grind)
    · obtain ⟨i, hi, hiβ⟩ := hb
      have hne : kk n ≠ kk q := fun e' => sq.ent.nb (by rw [← e']; exact ⟨i, hi, hiβ⟩)
      have hy : ray m (st q) (kk q) (kk n) = -(st q).A i (kk q) := by
        rw [← hiβ]; exact ray_bas tq hi (by rw [hiβ]; exact hne)
      rw [hy] at hpj
      have hA : 0 < (st q).A i (kk q) := by
        rcases rlt_or_le 0 ((st q).A i (kk q)) with a | a
        · exact a
        · exfalso
          by_cases a0 : (st q).A i (kk q) = 0
          · exact hpj.not_nul fun l _ => by rw [a0]; grind
          · exact hnp (hpj.of_smul (by grind))
      have hAN : (st q).A i N = 0 := by rw [← pt_bas tq hi, hiβ]; exact hz
      have hrN : (st q).A (rr q) N = 0 := by
        have := mul_div_self (a := (st q).A (rr q) N) (pos_ne sq.lve.pos)
        have h0 : (st q).A (rr q) N / (st q).A (rr q) (kk q) = 0 := deg q hq
        rw [h0] at this; grind
      have htie := sq.lve.tie i hi hA (by rw [hAN, hrN]; grind)
      rw [hqe, hiβ] at htie
      omega
end Go.Proofs.Ytchlpclgkhggeaa

namespace Go.Proofs.Ytchlpclgkhggeaa
set_option linter.unusedVariables false
set_option linter.unusedSimpArgs false
theorem php : ∀ (M : Nat) (f : Nat → Nat), (∀ i, i ≤ M → f i < M) → ∃ i j, i < j ∧ j ≤ M ∧ f i = f j
  | 0, f, h => by have := h 0 (Nat.le_refl _); omega
  | M + 1, f, h => by
    by_cases hv : ∃ i, i ≤ M ∧ f i = f (M + 1)
    · obtain ⟨i, hi, e⟩ := hv
      exact ⟨i, M + 1, by omega, Nat.le_refl _, e⟩
    · have hne : ∀ i, i ≤ M → f i ≠ f (M + 1) := fun i hi e => hv ⟨i, hi, e⟩
      obtain ⟨i, j, h1, h2, h3⟩ := php M (fun i => if f i > f (M + 1) then f i - 1 else f i) fun i hi => by
        have a1 := h i (by omega)
        have a2 := h (M + 1) (Nat.le_refl _)
        have a3 := hne i hi
        split <;> omega
      refine ⟨i, j, h1, by omega, ?_⟩
      have a1 := hne i (by omega)
      have a2 := hne j h2
      split at h3 <;> split at h3 <;> omega
def enc (N : Nat) (β : Nat → Nat) : Nat → Nat
  | 0 => 0
  | m + 1 => enc N β m * N + β m
theorem enc_lt {N : Nat} {β : Nat → Nat} : ∀ {m : Nat}, (∀ i, i < m → β i < N) → enc N β m < N ^ m
  | 0, _ => by simp [enc]
  | m + 1, h => by
    have h1 := enc_lt (N := N) (β := β) (m := m) fun i hi => h i (by omega)
    have h2 := h m (by omega)
    unfold enc
    rw [Nat.pow_succ]
    have : (enc N β m + 1) * N ≤ N ^ m * N := Nat.mul_le_mul_right N h1
    rw [Nat.succ_mul] at this
    omega
theorem enc_inj {N : Nat} {β γ : Nat → Nat} : ∀ {m : Nat}, (∀ i, i < m → β i < N) → (∀ i, i < m → γ i < N) → enc N β m = enc N γ m → ∀ i, i < m → β i = γ i
  | 0, _, _, _, i, hi => by omega
  | m + 1, h, g, e, i, hi => by
    unfold enc at e
    have h2 := h m (by omega)
    have g2 := g m (by omega)
    have hN : 0 < N := by omega
    have e1 : enc N β m = enc N γ m := by
      have a : (enc N β m * N + β m) / N = (enc N γ m * N + γ m) / N := by rw [e]
      rw [Nat.mul_comm, Nat.mul_add_div hN, Nat.div_eq_of_lt h2, Nat.mul_comm, Nat.mul_add_div hN, Nat.div_eq_of_lt g2] at a
      omega
    have e2 : β m = γ m := by rw [e1] at e; omega
    by_cases q : i = m
    · subst q; exact e2
    · exact enc_inj (fun i hi => h i (by omega)) (fun i hi => g i (by omega)) e1 i (by omega)
theorem run_ends {m N L : Nat} {C : Nat → Nat → Rat} {fr : Nat → Prop} {st : Nat → Tb} {kk rr : Nat → Nat} {K : Nat} (ht : Tab m N (st 0)) (hf : Fea m N (st 0))
    (hs : ∀ n, n < K → Step m N L C fr (st n) (kk n) (rr n) (st (n + 1))) : K < N ^ m ∨ K = 0 := by
  apply Classical.byContradiction
  intro hno
  have hK : N ^ m ≤ K := by omega
  have tab : ∀ n, n ≤ K → Tab m N (st n) := fun n => by
    induction n with
    | zero => intro _; exact ht
    | succ n ih => intro hn; exact (hs n (by omega)).tab (ih (by omega))
  have fea : ∀ n, n ≤ K → Fea m N (st n) := fun n => by
    induction n with
    | zero => intro _; exact hf
    | succ n ih => intro hn; exact (hs n (by omega)).fea (ih (by omega))
  obtain ⟨i, j, h1, h2, h3⟩ := php (N ^ m) (fun n => enc N (st n).β m) fun n hn => enc_lt (tab n (by omega)).bl
  have e := enc_inj (tab i (by omega)).bl (tab j (by omega)).bl h3
  exact Cyc.false (m := m) (N := N) (L := L) (C := C) (fr := fr) (st := fun n => st (i + n)) (kk := fun n => kk (i + n)) (rr := fun n => rr (i + n)) (p := j - i) {
    pos := by omega
    step := fun n hn => hs (i + n) (by omega)
    tab := tab i (by omega)
    fea := fea i (by omega)
    same := fun a ha => by
      show (st (i + (j - i))).β a = (st (i + 0)).β a
      rw [show i + (j - i) = j by omega, Nat.add_zero]
      exact (e a ha).symm }
def Nn (N : Nat) (x : Nat → Rat) : Prop := ∀ j, j < N → 0 ≤ x j
theorem pt_nn {m N : Nat} {t : Tb} (h : Fea m N t) : ∀ j, 0 ≤ pt m N t j := fun j => sm_nonneg fun i hi => by
  split
  · exact h i hi
  · grind
theorem opt_end {m N L : Nat} {C : Nat → Nat → Rat} {fr : Nat → Prop} {t : Tb} (h : Tab m N t) (he : ∀ j, j < N → fr j → ¬ Bas m t j → ¬ Pos L (gv m C t j))
    {x : Nat → Rat} (hx : Sol m N t.A x) (hn : Nn N x) (hf : ∀ j, j < N → ¬ fr j → ¬ Bas m t j → x j = 0) : ¬ Pos L (fun l => sm N (fun j => C l j * x j) - val m N t (C l)) := by
  intro hp
  have hs : ∀ l, sm N (fun j => C l j * x j) - val m N t (C l) = sm N (fun j => gv m C t j l * x j) := fun l => by
    rw [obj_sol hx]; show val m N t (C l) + sm N (fun j => gain m t (C l) j * x j) - _ = _; unfold gv; grind
  obtain ⟨j, hj, hpj⟩ := (hp.congr fun l _ => hs l).some
  have hnb : ¬ Bas m t j := fun hb => hpj.not_nul fun l _ => by
    show gain m t (C l) j * x j = 0
    rw [gain_bas h hb, Rat.zero_mul]
  have h0 : x j ≠ 0 := fun e => hpj.not_nul fun l _ => by show _ * x j = 0; rw [e, Rat.mul_zero]
  have hfr : fr j := Classical.byContradiction fun q => h0 (hf j hj q hnb)
  have := hn j hj
  exact he j hj hfr hnb (hpj.of_smul (by grind))
theorem ray_end {m N L : Nat} {C : Nat → Nat → Rat} {fr : Nat → Prop} {t : Tb} {k : Nat} (h : Tab m N t) (he : Ent m N L C fr t k) (hl : ∀ i, i < m → t.A i k ≤ 0) :
    Nn N (ray m t k) ∧ Hom m N t.A (ray m t k) ∧ Pos L (fun l => sm N (fun j => C l j * ray m t k j)) ∧ ∀ j, ray m t k j ≠ 0 → j = k ∨ Bas m t j := by
  refine ⟨fun j hj => ?_, ray_hom h he.lt, he.pos.congr fun l _ => (ray_val h he.lt he.nb).symm, fun j hj => ?_⟩
  · by_cases e : j = k
    · subst e; rw [ray_self he.nb]; decide
    · by_cases hb : Bas m t j
      · obtain ⟨i, hi, rfl⟩ := hb
        rw [ray_bas h hi e]
        have := hl i hi; grind
      · rw [ray_non e hb]; grind
  · apply Classical.byContradiction
    intro q
    exact hj (ray_non (fun e => q (.inl e)) (fun e => q (.inr e)))
structure LP where
  m : Nat
  n : Nat
  A : Nat → Nat → Rat
  b : Nat → Rat
  c : Nat → Rat
def LP.Fx (p : LP) (x : Nat → Rat) : Prop := (∀ i, i < p.m → sm p.n (fun j => p.A i j * x j) = p.b i) ∧ ∀ j, j < p.n → 0 ≤ x j
def LP.v (p : LP) (x : Nat → Rat) : Rat := sm p.n (fun j => p.c j * x j)
def LP.C (p : LP) : Nat → Nat → Rat
  | 0, j => p.c j
  | l + 1, j => if j = l then -1 else 0
def LP.Best (p : LP) (x : Nat → Rat) : Prop := p.Fx x ∧ ∀ y, p.Fx y → ¬ Pos (p.n + 1) (fun l => sm p.n (fun j => p.C l j * y j) - sm p.n (fun j => p.C l j * x j))
def LP.Open (p : LP) : Prop := (∃ x, p.Fx x) ∧ ∃ d : Nat → Rat, (∀ i, i < p.m → sm p.n (fun j => p.A i j * d j) = 0) ∧ (∀ j, j < p.n → 0 ≤ d j) ∧ 0 < sm p.n (fun j => p.c j * d j)
theorem LP.C_val {p : LP} {l : Nat} (hl : l < p.n) (x : Nat → Rat) : sm p.n (fun j => p.C (l + 1) j * x j) = -x l := by
  rw [sm_one hl]
  · show (if l = l then (-1 : Rat) else 0) * x l = _; rw [if_pos rfl]; grind
  · intro j _ hne
    show (if j = l then (-1 : Rat) else 0) * x j = 0
    rw [if_neg hne, Rat.zero_mul]
theorem LP.Best.max {p : LP} {x y : Nat → Rat} (h : p.Best x) (g : p.Fx y) : p.v y ≤ p.v x := by
  rcases rlt_or_le (p.v x) (p.v y) with q | q
  · exact absurd ⟨0, by omega, by show 0 < p.v y - p.v x; grind, fun k hk => by omega⟩ (h.2 y g)
  · exact q
end Go.Proofs.Ytchlpclgkhggeaa

namespace Go.Proofs.Ytchlpclgkhggeaa
set_option linter.unusedVariables false
set_option linter.unusedSimpArgs false
theorem sm_ext {n N : Nat} {f : Nat → Rat} (h : n ≤ N) (hz : ∀ j, n ≤ j → j < N → f j = 0) : sm N f = sm n f := by
  obtain ⟨d, rfl⟩ : ∃ d, N = n + d := ⟨N - n, by omega⟩
  rw [sm_split, sm_zero (n := d) fun j hj => hz (n + j) (by omega) (by omega)]; grind
def sg (p : LP) (i : Nat) : Rat := if p.b i < 0 then -1 else 1
def ph1 (p : LP) : Tb := ⟨fun i j => if j < p.n then sg p i * p.A i j else if j < p.n + p.m then (if j = p.n + i then 1 else 0) else sg p i * p.b i, fun i => p.n + i⟩
def c1 (p : LP) (j : Nat) : Rat := if j < p.n then 0 else if j < p.n + p.m then -1 else 0
theorem sg_ne (p : LP) (i : Nat) : sg p i ≠ 0 := by unfold sg; split <;> decide
theorem ph1_tab (p : LP) : Tab p.m (p.n + p.m) (ph1 p) where
  bl i hi := by show p.n + i < _; omega
  un i k hi hk := by
    show (if p.n + k < p.n then _ else if p.n + k < p.n + p.m then (if p.n + k = p.n + i then (1 : Rat) else 0) else _) = _
    rw [if_neg (by omega), if_pos (by omega)]
    by_cases h : i = k
    · subst h; rw [if_pos rfl, if_pos rfl]
    · rw [if_neg (by omega), if_neg h]
theorem ph1_fea (p : LP) : Fea p.m (p.n + p.m) (ph1 p) := by
  intro i hi
  show 0 ≤ (if p.n + p.m < p.n then _ else if p.n + p.m < p.n + p.m then _ else sg p i * p.b i)
  rw [if_neg (by omega), if_neg (by omega)]
  unfold sg
  split <;> grind
theorem ph1_row (p : LP) {x : Nat → Rat} {i : Nat} (hi : i < p.m) : sm (p.n + p.m) (fun j => (ph1 p).A i j * x j) = sg p i * sm p.n (fun j => p.A i j * x j) + x (p.n + i) := by
  rw [sm_split]
  have e1 : sm p.n (fun j => (ph1 p).A i j * x j) = sg p i * sm p.n (fun j => p.A i j * x j) := by
    rw [← sm_mul]
    refine sm_congr fun j hj => ?_
    show (if j < p.n then _ else _) * _ = _
    rw [if_pos hj]; grind
  have e2 : sm p.m (fun j => (ph1 p).A i (p.n + j) * x (p.n + j)) = x (p.n + i) := by
    rw [sm_one hi]
    · show (if p.n + i < p.n then _ else if p.n + i < p.n + p.m then (if p.n + i = p.n + i then (1 : Rat) else 0) else _) * _ = _
      rw [if_neg (by omega), if_pos (by omega), if_pos rfl]; grind
    · intro j hj hne
      show (if p.n + j < p.n then _ else if p.n + j < p.n + p.m then (if p.n + j = p.n + i then (1 : Rat) else 0) else _) * _ = 0
      rw [if_neg (by omega), if_pos (by omega), if_neg (by omega), Rat.zero_mul]
  rw [e1, e2]
theorem ph1_rhs (p : LP) (i : Nat) : (ph1 p).A i (p.n + p.m) = sg p i * p.b i := by
  show (if p.n + p.m < p.n then _ else if p.n + p.m < p.n + p.m then _ else sg p i * p.b i) = _
  rw [if_neg (by omega), if_neg (by omega)]
theorem mul_cancel {a x y : Rat} (ha : a ≠ 0) (h : a * x = a * y) : x = y := by
  have e : a⁻¹ * (a * x) = a⁻¹ * (a * y) := by rw [h]
  rwa [← Rat.mul_assoc, ← Rat.mul_assoc, Rat.inv_mul_cancel _ ha, Rat.one_mul, Rat.one_mul] at e
theorem ph1_sol (p : LP) {x : Nat → Rat} (hz : ∀ j, p.n ≤ j → j < p.n + p.m → x j = 0) : Sol p.m (p.n + p.m) (ph1 p).A x ↔ ∀ i, i < p.m → sm p.n (fun j => p.A i j * x j) = p.b i := by
  constructor
  · intro h i hi
    have := h i hi
    rw [ph1_row p hi, ph1_rhs, hz (p.n + i) (by omega) (by omega)] at this
    exact mul_cancel (sg_ne p i) (by grind)
  · intro h i hi
    rw [ph1_row p hi, ph1_rhs, hz (p.n + i) (by omega) (by omega), h i hi]; grind
theorem ph1_end {p : LP} {fr : Nat → Prop} {t : Tb} (h : Tab p.m (p.n + p.m) t) (hf : Fea p.m (p.n + p.m) t) (hs : ∀ x, Sol p.m (p.n + p.m) (ph1 p).A x ↔ Sol p.m (p.n + p.m) t.A x)
    (hfr : ∀ j, j < p.n → fr j) (he : ∀ j, j < p.n + p.m → fr j → ¬ Bas p.m t j → ¬ Pos 1 (gv p.m (fun _ => c1 p) t j)) :
    (∃ x, p.Fx x) ↔ ∀ i, i < p.m → p.n ≤ t.β i → t.A i (p.n + p.m) = 0 := by
  constructor
  · rintro ⟨x, hx1, hx2⟩
    have hz : ∀ j, p.n ≤ j → j < p.n + p.m → (fun j => if j < p.n then x j else 0) j = 0 := fun j h1 _ => if_neg (by omega)
    have hx : Sol p.m (p.n + p.m) t.A fun j => if j < p.n then x j else 0 := (hs _).1 ((ph1_sol p hz).2 fun i hi => by
      rw [← hx1 i hi]; exact sm_congr fun j hj => by rw [if_pos hj])
    have ho := opt_end h he hx (fun j hj => by
      split
      · exact hx2 j (by omega)
      · grind) (fun j hj hnf _ => if_neg fun q => hnf (hfr j q))
    have hv : sm (p.n + p.m) (fun j => c1 p j * if j < p.n then x j else 0) = 0 := sm_zero fun j _ => by
      unfold c1
      by_cases q : j < p.n
      · rw [if_pos q, Rat.zero_mul]
      · rw [if_neg q, if_neg q, Rat.mul_zero]
    have hval : val p.m (p.n + p.m) t (c1 p) = -sm p.m (fun i => if p.n ≤ t.β i then t.A i (p.n + p.m) else 0) := by
      unfold val
      rw [← sm_neg]
      refine sm_congr fun i hi => ?_
      have hbl := h.bl i hi
      unfold c1
      by_cases q : t.β i < p.n
      · rw [if_pos q, if_neg (by omega)]; grind
      · rw [if_neg q, if_pos hbl, if_pos (by omega)]; grind
    have hle : sm p.m (fun i => if p.n ≤ t.β i then t.A i (p.n + p.m) else 0) ≤ 0 := by
      rcases rlt_or_le 0 (sm p.m (fun i => if p.n ≤ t.β i then t.A i (p.n + p.m) else 0)) with q | q
      · exact absurd ⟨0, by omega, by show 0 < _ - _; rw [hv, hval]; grind, fun k hk => by omega⟩ ho
      · exact q
    have hnn : ∀ i, i < p.m → 0 ≤ (fun i => if p.n ≤ t.β i then t.A i (p.n + p.m) else 0) i := fun i hi => by
      show 0 ≤ if p.n ≤ t.β i then t.A i (p.n + p.m) else 0
      split
      · exact hf i hi
      · grind
    have h0 := sm_eq_zero hnn (by have := sm_nonneg hnn; grind)
    intro i hi hb
    have := h0 i hi
    rwa [if_pos hb] at this
  · intro hz
    refine ⟨pt p.m (p.n + p.m) t, ?_, fun j _ => pt_nn hf j⟩
    refine (ph1_sol p fun j h1 h2 => ?_).1 ((hs _).2 (pt_sol h))
    by_cases hb : Bas p.m t j
    · obtain ⟨i, hi, rfl⟩ := hb
      rw [pt_bas h hi]; exact hz i hi h1
    · exact pt_non hb
theorem ph1_bound {p : LP} {fr : Nat → Prop} {t : Tb} {k : Nat} (h : Tab p.m (p.n + p.m) t) (he : Ent p.m (p.n + p.m) 1 (fun _ => c1 p) fr t k) : ∃ i, i < p.m ∧ 0 < t.A i k := by
  apply Classical.byContradiction
  intro hno
  have hno : ∀ i, i < p.m → t.A i k ≤ 0 := fun i hi => by
    rcases rlt_or_le 0 (t.A i k) with q | q
    · exact absurd ⟨i, hi, q⟩ hno
    · exact q
  obtain ⟨h1, _, ⟨l, hl, h3, _⟩, _⟩ := ray_end h he hno
  have : sm (p.n + p.m) (fun j => c1 p j * ray p.m t k j) ≤ 0 := by
    have := sm_le (n := p.n + p.m) (f := fun j => c1 p j * ray p.m t k j) (g := fun _ => 0) fun j hj => by
      have := h1 j hj
      unfold c1
      split
      · grind
      · first | grind | (split <;> grind)
    rwa [sm_zero (f := fun _ => (0 : Rat)) fun _ _ => rfl] at this
  grind
structure Ph2 (p : LP) (N m : Nat) (t : Tb) : Prop where
  tab : Tab m N t
  fea : Fea m N t
  nN : p.n ≤ N
  bn : ∀ i, i < m → t.β i < p.n
  sol : ∀ x, (∀ j, p.n ≤ j → j < N → x j = 0) → (Sol m N t.A x ↔ ∀ i, i < p.m → sm p.n (fun j => p.A i j * x j) = p.b i)
theorem Ph2.pt0 {p : LP} {N m : Nat} {t : Tb} (h : Ph2 p N m t) {j : Nat} (hj : p.n ≤ j) : pt m N t j = 0 := pt_non fun ⟨i, hi, e⟩ => by have := h.bn i hi; omega
theorem Ph2.fx {p : LP} {N m : Nat} {t : Tb} (h : Ph2 p N m t) : p.Fx (pt m N t) :=
  ⟨(h.sol _ fun j h1 _ => h.pt0 h1).1 (pt_sol h.tab), fun j _ => pt_nn h.fea j⟩
def LP.ex (p : LP) (x : Nat → Rat) (j : Nat) : Rat := if j < p.n then x j else 0
theorem LP.ex_sum {p : LP} {N : Nat} (hN : p.n ≤ N) {c x : Nat → Rat} : sm N (fun j => c j * p.ex x j) = sm p.n (fun j => c j * x j) := by
  rw [sm_ext hN fun j h1 _ => by unfold LP.ex; rw [if_neg (by omega), Rat.mul_zero]]
  exact sm_congr fun j hj => by unfold LP.ex; rw [if_pos hj]
theorem Ph2.ex_sol {p : LP} {N m : Nat} {t : Tb} (h : Ph2 p N m t) {x : Nat → Rat} (hx : p.Fx x) : Sol m N t.A (p.ex x) ∧ Nn N (p.ex x) := by
  refine ⟨(h.sol _ fun j h1 _ => if_neg (by omega)).2 fun i hi => ?_, fun j _ => ?_⟩
  · show sm p.n (fun j => p.A i j * p.ex x j) = _
    rw [LP.ex_sum (Nat.le_refl _)]; exact hx.1 i hi
  · unfold LP.ex; split
    · exact hx.2 j (by assumption)
    · grind
theorem Ph2.val {p : LP} {N m : Nat} {t : Tb} (h : Ph2 p N m t) {c : Nat → Rat} : val m N t c = sm p.n (fun j => c j * pt m N t j) := by
  rw [← pt_val h.tab, sm_ext h.nN fun j h1 _ => by rw [h.pt0 h1, Rat.mul_zero]]
theorem Ph2.dir {p : LP} {N m : Nat} {t : Tb} (h : Ph2 p N m t) {d : Nat → Rat} (hd : Hom m N t.A d) (hz : ∀ j, p.n ≤ j → j < N → d j = 0) : ∀ i, i < p.m → sm p.n (fun j => p.A i j * d j) = 0 := by
  intro i hi
  have h1 := (h.sol _ fun j h1 _ => h.pt0 h1).1 (pt_sol h.tab) i hi
  have h2 : Sol m N t.A fun j => pt m N t j + d j := fun i hi => by
    have e : sm N (fun j => t.A i j * (pt m N t j + d j)) = sm N (fun j => t.A i j * pt m N t j) + sm N (fun j => t.A i j * d j) := by
      rw [← sm_add]; exact sm_congr fun j _ => by grind
    rw [e, pt_sol h.tab i hi, hd i hi]; grind
  have h3 := (h.sol _ fun j h1 h2 => by rw [h.pt0 h1, hz j h1 h2]; grind).1 h2 i hi
  have e : sm p.n (fun j => p.A i j * (pt m N t j + d j)) = sm p.n (fun j => p.A i j * pt m N t j) + sm p.n (fun j => p.A i j * d j) := by
    rw [← sm_add]; exact sm_congr fun j _ => by grind
  rw [e, h1] at h3; grind
theorem Ph2.step {p : LP} {N m L : Nat} {C : Nat → Nat → Rat} {fr : Nat → Prop} {t t' : Tb} {k r : Nat} (h : Ph2 p N m t) (s : Step m N L C fr t k r t') (hk : k < p.n) : Ph2 p N m t' := by
  refine ⟨s.tab h.tab, s.fea h.fea, h.nN, fun i hi => ?_, fun x hx => (s.sol.symm).trans (h.sol x hx)⟩
  rw [s.e]
  show (if i = r then k else t.β i) < p.n
  split
  · exact hk
  · exact h.bn i hi
theorem Ph2.open {p : LP} {N m L l0 : Nat} {fr : Nat → Prop} {t : Tb} {k : Nat} {C : Nat → Nat → Rat} (h : Ph2 p N m t) (he : Ent m N L C fr t k) (hk : k < p.n) (hl : ∀ i, i < m → t.A i k ≤ 0)
    (hC : ∀ l, l < L → C l = p.C (l0 + l)) : l0 = 0 ∧ p.Open := by
  obtain ⟨h1, h2, ⟨l, hlL, h3, h4⟩, h5⟩ := ray_end h.tab he hl
  have hz : ∀ j, p.n ≤ j → j < N → ray m t k j = 0 := fun j hj _ => Classical.byContradiction fun q => by
    rcases h5 j q with e | ⟨i, hi, e⟩
    · omega
    · have := h.bn i hi; omega
  have e3 : 0 < sm p.n (fun j => p.C (l0 + l) j * ray m t k j) := by
    rw [← hC l hlL, ← sm_ext h.nN fun j a b => by rw [hz j a b, Rat.mul_zero]]; exact h3
  have hnn : ∀ j, j < p.n → 0 ≤ ray m t k j := fun j hj => h1 j (by have := h.nN; omega)
  have hl0 : l0 + l = 0 := by
    apply Classical.byContradiction
    intro q
    obtain ⟨a, ha⟩ : ∃ a, l0 + l = a + 1 := ⟨l0 + l - 1, by omega⟩
    rw [ha] at e3
    by_cases han : a < p.n
    · rw [LP.C_val han] at e3
      have := hnn a han
      grind
    · rw [sm_zero] at e3
      · grind
      · intro j hj
        show (if j = a then (-1 : Rat) else 0) * _ = 0
        rw [if_neg (by omega), Rat.zero_mul]
  refine ⟨by omega, ⟨_, h.fx⟩, ray m t k, h.dir h2 hz, hnn, ?_⟩
  rw [hl0] at e3
  exact e3
structure Im (p : LP) (N m : Nat) (fr : Nat → Prop) (l : Nat) (t : Tb) : Prop where
  ph : Ph2 p N m t
  frn : ∀ j, fr j → j < p.n
  frb : ∀ j, Bas m t j → fr j
  top : ∀ y, p.Fx y → ¬ Pos l (fun k => sm p.n (fun j => p.C k j * y j) - sm p.n (fun j => p.C k j * pt m N t j))
  eq : ∀ y, p.Fx y → ((∀ k, k < l → sm p.n (fun j => p.C k j * y j) = sm p.n (fun j => p.C k j * pt m N t j)) ↔ ∀ j, j < p.n → ¬ fr j → y j = 0)
theorem Im.first {p : LP} {N m : Nat} {t : Tb} (h : Ph2 p N m t) : Im p N m (fun j => j < p.n) 0 t :=
  ⟨h, fun _ h => h, fun j ⟨i, hi, e⟩ => by rw [← e]; exact h.bn i hi, fun y _ ⟨l, hl, _⟩ => by omega, fun y _ => ⟨fun _ j h1 h2 => absurd h1 h2, fun _ k hk => by omega⟩⟩
theorem Im.step {p : LP} {N m l : Nat} {fr : Nat → Prop} {t t' : Tb} {k r : Nat} (h : Im p N m fr l t) (s : Step m N 1 (fun _ => p.C l) fr t k r t') : Im p N m fr l t' := by
  have hk := h.frn k s.ent.free
  have hp := h.ph.step s hk
  have hb : ∀ j, Bas m t' j → fr j := fun j hj => by
    by_cases e : j = k
    · subst e; exact s.ent.free
    · exact h.frb j (s.bas_back hj e)
  have hz : ∀ j, j < p.n → ¬ fr j → pt m N t' j = 0 := fun j _ hn => pt_non fun q => hn (hb j q)
  have he := (h.eq _ hp.fx).2 hz
  refine ⟨hp, h.frn, hb, fun y hy hpos => h.top y hy (hpos.congr fun k hk => by rw [he k hk]), fun y hy => ?_⟩
  rw [← h.eq y hy]
  constructor
  · intro q k hk; rw [q k hk, he k hk]
  · intro q k hk; rw [q k hk, he k hk]
theorem Im.next {p : LP} {N m l : Nat} {fr : Nat → Prop} {t : Tb} (h : Im p N m fr l t) (hend : ∀ j, j < N → fr j → ¬ Bas m t j → ¬ 0 < gain m t (p.C l) j) :
    Im p N m (fun j => fr j ∧ ¬ (¬ Bas m t j ∧ gain m t (p.C l) j < 0)) (l + 1) t := by
  have key : ∀ y, p.Fx y → (∀ j, j < p.n → ¬ fr j → y j = 0) → sm p.n (fun j => p.C l j * y j) - sm p.n (fun j => p.C l j * pt m N t j) = sm N (fun j => gain m t (p.C l) j * p.ex y j) := by
    intro y hy hz
    have h1 := obj_sol (c := p.C l) (h.ph.ex_sol hy).1
    rw [LP.ex_sum h.ph.nN, h.ph.val] at h1
    rw [h1]; grind
  have term : ∀ y, p.Fx y → (∀ j, j < p.n → ¬ fr j → y j = 0) → ∀ j, j < N → gain m t (p.C l) j * p.ex y j ≤ 0 := by
    intro y hy hz j hj
    by_cases hb : Bas m t j
    · rw [gain_bas h.ph.tab hb, Rat.zero_mul]; grind
    · by_cases hf : fr j
      · have h1 := hend j hj hf hb
        have h2 : 0 ≤ p.ex y j := (h.ph.ex_sol hy).2 j hj
        have h3 := Rat.mul_nonneg (a := -gain m t (p.C l) j) (b := p.ex y j) (by rcases rlt_or_le 0 (gain m t (p.C l) j) with q | q <;> grind) h2
        grind
      · have : p.ex y j = 0 := by
          unfold LP.ex
          split
          · exact hz j (by assumption) hf
          · rfl
        rw [this, Rat.mul_zero]; grind
  refine ⟨h.ph, fun j hj => h.frn j hj.1, fun j hj => ⟨h.frb j hj, fun q => q.1 hj⟩, fun y hy => ?_, fun y hy => ?_⟩
  · rintro ⟨k, hk, h1, h2⟩
    by_cases hkl : k < l
    · exact h.top y hy ⟨k, hkl, h1, h2⟩
    · obtain rfl : k = l := by omega
      have hz := (h.eq y hy).1 fun i hi => by have := h2 i hi; simp only at this; grind
      have h1 : 0 < sm p.n (fun j => p.C k j * y j) - sm p.n (fun j => p.C k j * pt m N t j) := h1
      rw [key y hy hz] at h1
      have := sm_le (f := fun j => gain m t (p.C k) j * p.ex y j) (g := fun _ => 0) (term y hy hz)
      rw [sm_zero (f := fun _ => (0 : Rat)) fun _ _ => rfl] at this
      grind
  · constructor
    · intro q
      have hz := (h.eq y hy).1 fun k hk => q k (by omega)
      have h0 := key y hy hz
      rw [q l (by omega)] at h0
      have h1 : sm N (fun j => -(gain m t (p.C l) j * p.ex y j)) = 0 := by rw [sm_neg, ← h0]; grind
      have h2 := sm_eq_zero (fun j hj => by have := term y hy hz j hj; grind) h1
      intro j hj hn
      by_cases hf : fr j
      · have hg : ¬ Bas m t j ∧ gain m t (p.C l) j < 0 := Classical.byContradiction fun w => hn ⟨hf, w⟩
        have := h2 j (by have := h.ph.nN; omega)
        have e : gain m t (p.C l) j * p.ex y j = 0 := by grind
        unfold LP.ex at e
        rw [if_pos hj] at e
        rcases Rat.mul_eq_zero.1 e with w | w
        · have := hg.2; grind
        · exact w
      · exact hz j hj hf
    · intro q
      have hz : ∀ j, j < p.n → ¬ fr j → y j = 0 := fun j hj hn => q j hj fun w => hn w.1
      intro k hk
      by_cases hkl : k < l
      · exact (h.eq y hy).2 hz k hkl
      · obtain rfl : k = l := by omega
        have h0 := key y hy hz
        have h1 : sm N (fun j => gain m t (p.C k) j * p.ex y j) = 0 := sm_zero fun j hj => by
          by_cases hb : Bas m t j
          · rw [gain_bas h.ph.tab hb, Rat.zero_mul]
          · by_cases hf : fr j
            · by_cases hg : gain m t (p.C k) j < 0
              · have : p.ex y j = 0 := by
                  unfold LP.ex
                  split
                  · exact q j (by assumption) fun w => w.2 ⟨hb, hg⟩
                  · rfl
                rw [this, Rat.mul_zero]
              · have h1 := hend j hj hf hb
                have : gain m t (p.C k) j = 0 := by rcases rlt_or_le 0 (gain m t (p.C k) j) with q | q <;> rcases rlt_or_le (gain m t (p.C k) j) 0 with w | w <;> grind
                rw [this, Rat.zero_mul]
            · have : p.ex y j = 0 := by
                unfold LP.ex
                split
                · exact hz j (by assumption) hf
                · rfl
              rw [this, Rat.mul_zero]
        rw [h1] at h0; grind
end Go.Proofs.Ytchlpclgkhggeaa
