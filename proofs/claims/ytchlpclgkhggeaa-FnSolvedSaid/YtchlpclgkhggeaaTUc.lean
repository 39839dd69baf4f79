/- part of the proof -/
import Derived.Test.YtchlpclgkhggeaaTUa
import Derived.Test.YtchlpclgkhggeaaTUb
namespace Go.Proofs.Ytchlpclgkhggeaa
open Go Go.RowKit
set_option maxRecDepth 100000
set_option maxHeartbeats 4000000
set_option linter.unusedVariables false
set_option linter.unusedSimpArgs false
def fstZ (p : Prg) (r c i j : Nat) : Int := if j < c then sgR p i * (rowI p i).getD j 0 else if j < c + r then (if j = c + i then 1 else 0) else sgR p i * p.b.getD i 0
def fstI (p : Prg) (r c : Nat) : IT := ⟨fstZ p r c, 1, fun i => c + i, fun k => decide (k < c)⟩
def o1 (r c j : Nat) : Int := if j < c then 0 else if j < c + r then -1 else 0
theorem PD.z {p : Prg} {r c : Nat} (h : PD p r c) {i j : Nat} (hi : i < r) : (ph1 p.lp).A i j = ((fstZ p r c i j : Int) : Rat) := by
 unfold fstZ
 show (if j < p.lp.n then sg p.lp i * p.lp.A i j else if j < p.lp.n + p.lp.m then (if j = p.lp.n + i then (1 : Rat) else 0) else sg p.lp i * p.lp.b i) = _
 rw [h.n, h.m]
 by_cases h1 : j < c
 ·obtain ⟨a1, a2, a3⟩ := h.a i j hi h1
  rw [if_pos h1, if_pos h1, h.sgn, h.A, a1, Rat.intCast_mul]
 ·by_cases h2 : j < c + r
  ·rw [if_neg h1, if_neg h1, if_pos h2, if_pos h2]
   split <;> rfl
  ·rw [if_neg h1, if_neg h1, if_neg h2, if_neg h2, h.sgn, h.B, Rat.intCast_mul]
theorem PD.ir {p : Prg} {r c : Nat} (h : PD p r c) : IR p.lp r (c + r) (fstI p r c) (ph1 p.lp) := by
 have h1 := ph1_tab p.lp
 have h2 := ph1_fea p.lp
 have h3 := h.bd
 rw [h.m, h.n] at h1 h2 h3
 refine ⟨fun i hi => by show c + i = p.lp.n + i; rw [h.n], fun i j hi hj => ?_, show (0 : Int) < 1 from by omega, h1, h2, 1, h3, .inl rfl⟩
 show ((fstZ p r c i j : Int) : Rat) = (ph1 p.lp).A i j * ((1 : Int) : Rat)
 rw [h.z hi]; grind
theorem o1_c1 {p : Prg} {r c : Nat} (h : PD p r c) : (fun j => ((o1 r c j : Int) : Rat)) = c1 p.lp := by
 funext j
 unfold o1 c1
 rw [h.n, h.m]
 split
 ·rfl
 ·split <;> rfl
theorem PD.endI {p : Prg} {r c : Nat} (h : PD p r c) : ∃ K t, stopI r (c + r) (o1 r c) (itI r (c + r) (o1 r c) (fstI p r c) K) = true ∧ (∀ n, n < K → stopI r (c + r) (o1 r c) (itI r (c + r) (o1 r c) (fstI p r c) n) = false) ∧
  (∀ n, n ≤ K → ∃ u, IR p.lp r (c + r) (itI r (c + r) (o1 r c) (fstI p r c) n) u) ∧ entI (itI r (c + r) (o1 r c) (fstI p r c) K) r (c + r) (o1 r c) = c + r ∧
  IR p.lp r (c + r) (itI r (c + r) (o1 r c) (fstI p r c) K) t ∧
  ((∀ i, i < r → c ≤ (itI r (c + r) (o1 r c) (fstI p r c) K).β i → (itI r (c + r) (o1 r c) (fstI p r c) K).W i (c + r) ≤ 0) ↔ ∃ x, p.lp.Fx x) ∧ ((∃ x, p.lp.Fx x) → Cl p.lp (c + r) r t) := by
 obtain ⟨K, g1, g2, g3, g4⟩ := runI (o := o1 r c) h.ir
 obtain ⟨hK, hfr⟩ := g3 K (Nat.le_refl _)
 obtain ⟨k1, k2⟩ := steps_keep (st := itU r (c + r) (o1 r c) (fstI p r c) (ph1 p.lp)) h.ir.tab g4 K (Nat.le_refl _)
 refine ⟨K, itU r (c + r) (o1 r c) (fstI p r c) (ph1 p.lp) K, g1, g2, fun n hn => ⟨_, (g3 n hn).1⟩, ?_⟩
 have hent := entI_spec hK (o1 r c)
 have hlv := fun hlt => lvI_spec (k := entI (itI r (c + r) (o1 r c) (fstI p r c) K) r (c + r) (o1 r c)) hK hlt r (Nat.le_refl _)
 have hk2 : ∀ x, Sol p.lp.m (p.lp.n + p.lp.m) (ph1 p.lp).A x ↔ Sol p.lp.m (p.lp.n + p.lp.m) (itU r (c + r) (o1 r c) (fstI p r c) (ph1 p.lp) K).A x := by rw [h.m, h.n]; exact k2
 have hle : entI (itI r (c + r) (o1 r c) (fstI p r c) K) r (c + r) (o1 r c) ≤ c + r := by unfold entI; exact fstN_spec.1
 have ht := hK.tab
 have hf := hK.fea
 rw [o1_c1 h] at hent
 unfold stopI at g1
 generalize entI (itI r (c + r) (o1 r c) (fstI p r c) K) r (c + r) (o1 r c) = e at *
 generalize itI r (c + r) (o1 r c) (fstI p r c) K = s at *
 generalize itU r (c + r) (o1 r c) (fstI p r c) (ph1 p.lp) K = t at *
 have hm := h.m
 have hn := h.n
 have hee : e = c + r := by
  rcases Nat.lt_or_eq_of_le hle with hlt | q
  ·exfalso
   have he := hent.1 hlt
   have ht2 : Tab p.lp.m (p.lp.n + p.lp.m) t := by rw [hn, hm]; exact ht
   rw [← hn, ← hm] at he
   obtain ⟨i, hi, hp⟩ := ph1_bound ht2 (by rw [hm] at he ⊢; exact he)
   have hl := hlv hlt
   cases e2 : lvI s (c + r) e r with
   | none =>
    rw [e2] at hl
    have := hl i (by rw [← hm]; exact hi)
    grind
   | some b =>
    rw [e2] at g1
    simp only [Option.isNone_some, Bool.or_false, decide_eq_true_iff] at g1
    omega
  ·exact q
 refine ⟨hee, hK, ?_⟩
 have hend := hent.2 hee
 have hpe := ph1_end (fr := fun j => s.fr j = true) (t := t) (by rw [hn, hm]; exact ht) (by rw [hn, hm]; exact hf) hk2 (fun j hj => by rw [hfr]; exact decide_eq_true (by rw [← hn]; exact hj)) (fun j hj hfj hb => by
  rw [hm] at hb ⊢
  rw [pos1]
  exact hend j (by rw [← hm, ← hn]; exact hj) hfj hb)
 have e3 : (∀ i, i < r → p.lp.n ≤ t.β i → t.A i (c + r) = 0) ↔ ∃ x, p.lp.Fx x := by rw [hpe, hm, hn]
 have e4 : (∀ i, i < r → c ≤ s.β i → s.W i (c + r) ≤ 0) ↔ ∀ i, i < r → p.lp.n ≤ t.β i → t.A i (c + r) = 0 := by
  constructor
  ·intro q i hi hb
   have q1 := q i hi (by rw [hK.beta i hi, ← hn]; exact hb)
   have q2 := hK.pos (i := i) (j := c + r) hi (Nat.le_refl _)
   have q3 := hf i hi
   rcases rlt_or_le 0 (t.A i (c + r)) with w | w
   ·have := q2.2 w; omega
   ·grind
  ·intro q i hi hb
   have q1 := q i hi (by rw [← hK.beta i hi, hn]; exact hb)
   have := (hK.zero (i := i) (j := c + r) hi (Nat.le_refl _)).2 q1
   omega
 refine ⟨e4.trans e3, fun hx => ?_⟩
 have := Cl.first (p := p.lp) (t := t) (by rw [hn, hm]; exact ht) (by rw [hn, hm]; exact hf) hk2 (by have q := e3.2 hx; rw [hn] at q; rw [hm, hn]; exact q)
 rw [hm, hn] at this
 exact this
def delI (s : IT) (i : Nat) : IT := ⟨fun a => s.W (skp i a), s.d, fun a => s.β (skp i a), s.fr⟩
noncomputable def nzI (s : IT) (i c : Nat) : Nat := fstN (fun j => decide (s.W i j ≠ 0)) c
noncomputable def lvv (c : Nat) : Nat → Nat → Nat → IT → Nat × IT
 | 0, _, m, s => (m, s)
 | f + 1, i, m, s => if s.β i < c then lvv c f (i + 1) m s else if nzI s i c < c then lvv c f (i + 1) m (pivI s i (nzI s i c)) else lvv c f i (m - 1) (delI s i)
structure CI (p : Prg) (r c i m : Nat) (z : IT) (u : Tb) : Prop where
 ir : IR p.lp m (c + r) z u
 cl : Cl p.lp (c + r) m u
 bs : ∀ a, a < i → z.β a < c
 mr : m ≤ r
theorem CI.skip {p : Prg} {r c i m : Nat} {z : IT} {u : Tb} (h : CI p r c i m z u) (hb : z.β i < c) : CI p r c (i + 1) m z u :=
 ⟨h.ir, h.cl, fun a ha => by
  by_cases e : a = i
  ·subst e; exact hb
  ·exact h.bs a (by omega), h.mr⟩
theorem CI.piv {p : Prg} {r c i m : Nat} {z : IT} {u : Tb} (hp : PD p r c) (h : CI p r c i m z u) (hi : i < m) (hb : ¬ z.β i < c) (hk : nzI z i c < c) : z.W i (nzI z i c) ≠ 0 ∧ CI p r c (i + 1) m (pivI z i (nzI z i c)) (u.piv i (nzI z i c)) := by
 have f3 := (fstN_spec (P := fun j => decide (z.W i j ≠ 0)) (n := c)).2.2
 change nzI z i c < c → _ at f3
 have f3 := f3 hk
 change decide (z.W i (nzI z i c) ≠ 0) = true at f3
 have hW : z.W i (nzI z i c) ≠ 0 := of_decide_eq_true f3
 generalize nzI z i c = k at *
 have h0 : u.A i k ≠ 0 := fun e => hW ((h.ir.zero hi (by omega)).2 e)
 have hn := hp.n
 have hcl := h.cl.piv hi (by rw [hn, ← h.ir.beta i hi]; omega) (by rw [hn]; exact hk) h0
 refine ⟨hW, h.ir.piv hi (by omega) h0 hcl.fea, hcl, fun a ha => ?_, h.mr⟩
 show (if a = i then k else z.β a) < c
 split
 ·exact hk
 ·exact h.bs a (by omega)
theorem CI.del {p : Prg} {r c i m : Nat} {z : IT} {u : Tb} (hp : PD p r c) (h : CI p r c i (m + 1) z u) (hi : i < m + 1) (hb : ¬ z.β i < c) (hk : ¬ nzI z i c < c) : CI p r c i m (delI z i) (u.del i) := by
 obtain ⟨f1, f2, f3⟩ := fstN_spec (P := fun j => decide (z.W i j ≠ 0)) (n := c)
 change nzI z i c ≤ c at f1
 have hz : ∀ j, j < c → z.W i j = 0 := fun j hj => by
  have : decide (z.W i j ≠ 0) = false := f2 j (by show j < nzI z i c; omega)
  simpa using this
 have hn := hp.n
 have hcl := h.cl.del (i := i) (by omega) (fun j hj => (h.ir.zero hi (by rw [hn] at hj; omega)).1 (hz j (by rw [← hn]; exact hj))) (by rw [hn, ← h.ir.beta i hi]; omega)
 have hs : ∀ a, a < m → skp i a < m + 1 := fun a ha => by unfold skp; split <;> omega
 obtain ⟨δ, hd, hδ⟩ := h.ir.bd
 refine ⟨⟨fun a ha => h.ir.beta _ (hs a ha), fun a j ha hj => h.ir.val _ j (hs a ha) hj, h.ir.dp, hcl.tab, hcl.fea, δ, ?_, hδ⟩, hcl, fun a ha => ?_, by have := h.mr; omega⟩
 ·exact hd.sub (skp i) id hs (fun a b ha hb e => by unfold skp at e; split at e <;> split at e <;> omega) (fun _ h => h) (fun _ h => h) (fun _ _ _ _ => rfl)
 ·show z.β (skp i a) < c
  have : skp i a = a := by unfold skp; rw [if_pos ha]
  rw [this]; exact h.bs a ha
theorem CI.ph2 {p : Prg} {r c m : Nat} {z : IT} {u : Tb} (hp : PD p r c) (h : CI p r c m m z u) : Ph2 p.lp (c + r) m u :=
 h.cl.ph2 fun i hi => by rw [hp.n, ← h.ir.beta i hi]; exact h.bs i hi
theorem CI.first {p : Prg} {r c : Nat} {z : IT} {u : Tb} (h : IR p.lp r (c + r) z u) (hc : Cl p.lp (c + r) r u) : CI p r c 0 r z u := ⟨h, hc, fun a ha => by omega, Nat.le_refl _⟩
theorem IR.fr {p : LP} {m N : Nat} {s : IT} {t : Tb} (h : IR p m N s t) (f : Nat → Bool) : IR p m N { s with fr := f } t := ⟨h.beta, h.val, h.dp, h.tab, h.fea, h.bd⟩
def oS (p : Prg) : Nat → Nat → Int
 | 0, j => p.c.getD j 0
 | l + 1, j => if j = l then -1 else 0
theorem oS_C {p : Prg} {r c : Nat} (h : PD p r c) : ∀ l, (fun j => ((oS p l j : Int) : Rat)) = p.lp.C l
 | 0 => by funext j; exact (h.C j).symm
 | l + 1 => by
  funext j
  show ((if j = l then (-1 : Int) else 0 : Int) : Rat) = if j = l then (-1 : Rat) else 0
  split <;> rfl
theorem oS_rng {p : Prg} {r c : Nat} (h : PD p r c) : ∀ l j, -100 ≤ oS p l j ∧ oS p l j ≤ 100
 | 0, j => h.cc j
 | l + 1, j => by
  show -100 ≤ (if j = l then (-1 : Int) else 0) ∧ (if j = l then (-1 : Int) else 0) ≤ 100
  split <;> omega
structure SI (p : Prg) (r c m l : Nat) (s : IT) (t : Tb) : Prop where
 ir : IR p.lp m (c + r) s t
 im : Im p.lp (c + r) m (fun j => s.fr j = true) l t
theorem Im.congr {p : LP} {N m l : Nat} {fr fr' : Nat → Prop} {t : Tb} (h : Im p N m fr l t) (e : ∀ j, fr j ↔ fr' j) : Im p N m fr' l t := by
 have : fr = fr' := funext fun j => propext (e j)
 rw [← this]; exact h
theorem SI.first {p : Prg} {r c m : Nat} {z : IT} {u : Tb} (hp : PD p r c) (h : CI p r c m m z u) : SI p r c m 0 { z with fr := fun k => decide (k < c) } u :=
 ⟨h.ir.fr _, (Im.first (h.ph2 hp)).congr fun j => by
  show j < p.lp.n ↔ decide (j < c) = true
  rw [hp.n, decide_eq_true_iff]⟩
theorem SI.max {p : Prg} {r c m l : Nat} {s : IT} {t : Tb} (hp : PD p r c) (h : SI p r c m l s t) : ∃ K t', stopI m (c + r) (oS p l) (itI m (c + r) (oS p l) s K) = true ∧ (∀ n, n < K → stopI m (c + r) (oS p l) (itI m (c + r) (oS p l) s n) = false) ∧
  (∀ n, n ≤ K → ∃ u, IR p.lp m (c + r) (itI m (c + r) (oS p l) s n) u) ∧
  (entI (itI m (c + r) (oS p l) s K) m (c + r) (oS p l) = c + r → SI p r c m (l + 1) (resI (itI m (c + r) (oS p l) s K) m (oS p l)) t') ∧
  (entI (itI m (c + r) (oS p l) s K) m (c + r) (oS p l) ≠ c + r → l = 0 ∧ p.lp.Open) := by
 obtain ⟨K, g1, g2, g3, g4⟩ := runI (o := oS p l) h.ir
 obtain ⟨hK, hfr⟩ := g3 K (Nat.le_refl _)
 have him : ∀ n, n ≤ K → Im p.lp (c + r) m (fun j => s.fr j = true) l (itU m (c + r) (oS p l) s t n) := by
  intro n
  induction n with
  | zero => intro _; exact h.im
  | succ n ih =>
   intro hn
   obtain ⟨k, rr, st⟩ := g4 n (by omega)
   rw [oS_C hp] at st
   exact (ih (by omega)).step st
 refine ⟨K, itU m (c + r) (oS p l) s t K, g1, g2, fun n hn => ⟨_, (g3 n hn).1⟩, ?_⟩
 have hI := him K (Nat.le_refl _)
 have hent := entI_spec hK (oS p l)
 have hlv := fun hlt => lvI_spec (k := entI (itI m (c + r) (oS p l) s K) m (c + r) (oS p l)) hK hlt m (Nat.le_refl _)
 have hle : entI (itI m (c + r) (oS p l) s K) m (c + r) (oS p l) ≤ c + r := by unfold entI; exact fstN_spec.1
 have hgn := fun k (hk : k ≤ c + r) => gnI_neg hK (o := oS p l) hk
 rw [oS_C hp] at hent hgn
 unfold stopI at g1
 generalize entI (itI m (c + r) (oS p l) s K) m (c + r) (oS p l) = e at *
 generalize itI m (c + r) (oS p l) s K = z at *
 generalize itU m (c + r) (oS p l) s t K = u at *
 rw [hfr] at hent
 refine ⟨fun hee => ?_, fun hee => ?_⟩
 ·refine ⟨hK.fr _, (hI.next (hent.2 hee)).congr fun j => ?_⟩
  show _ ↔ (z.fr j && !(!(basB z.β m j) && decide (gnI z m (oS p l) j < 0))) = true
  rw [hfr]
  by_cases hj : s.fr j = true
  ·have hjc : j < c := by rw [← hp.n]; exact hI.frn j hj
   have h1 := hgn j (by omega)
   have h2 := hK.bas (j := j)
   rw [← h1, ← h2, hj]
   cases basB z.β m j <;> simp
  ·simp [hj]
 ·have hlt : e < c + r := by omega
  have he := hent.1 hlt
  have hl := hlv hlt
  cases e2 : lvI z (c + r) e m with
  | some b =>
   rw [e2] at g1
   simp only [Option.isNone_some, Bool.or_false, decide_eq_true_iff] at g1
   exact absurd g1 hee
  | none =>
   rw [e2] at hl
   exact hI.ph.open (l0 := l) he (hI.frn _ he.free) hl fun l' hl' => by
    have : l' = 0 := by omega
    rw [this, Nat.add_zero]
def xR (N : Nat) (s : IT) : Nat → Nat → Rat
 | 0 => fun _ => 0
 | i + 1 => fun j => if j = s.β i then mkRat (s.W i N) s.d.natAbs else xR N s i j
theorem IR.rat {p : LP} {m N : Nat} {s : IT} {t : Tb} (h : IR p m N s t) {i j : Nat} (hi : i < m) (hj : j ≤ N) : mkRat (s.W i j) s.d.natAbs = t.A i j := by
 have hd := h.dpos
 have hdn : ((s.d.natAbs : Nat) : Int) = s.d := by have := h.dp; omega
 have hne : (s.d : Rat) ≠ 0 := pos_ne hd
 rw [Rat.mkRat_eq_div, h.val i j hi hj, show ((s.d.natAbs : Nat) : Rat) = (((s.d.natAbs : Nat) : Int) : Rat) from rfl, hdn, Rat.div_def, Rat.mul_assoc, Rat.mul_inv_cancel _ hne, Rat.mul_one]
theorem xR_val {p : LP} {m N : Nat} {s : IT} {t : Tb} (h : IR p m N s t) (j : Nat) : ∀ k, k ≤ m → xR N s k j = sm k (fun i => if t.β i = j then t.A i N else 0)
 | 0, _ => rfl
 | k + 1, hk => by
  have ih := xR_val h j k (by omega)
  have hb := h.beta k (by omega)
  show (if j = s.β k then mkRat (s.W k N) s.d.natAbs else xR N s k j) = sm k (fun i => if t.β i = j then t.A i N else 0) + if t.β k = j then t.A k N else 0
  by_cases e : j = s.β k
  ·have e2 : t.β k = j := by rw [← hb, e]
   have z : sm k (fun i => if t.β i = j then t.A i N else 0) = 0 := sm_zero fun i hi => if_neg fun q => by
    have := h.tab.inj (i := i) (k := k) (by omega) (by omega) (by rw [q, e2])
    omega
   rw [if_pos e, if_pos e2, z, h.rat (by omega) (Nat.le_refl _)]; grind
  ·have e2 : ¬ t.β k = j := fun q => e (by rw [hb, q])
   rw [if_neg e, if_neg e2, ih]; grind
theorem SI.best {p : Prg} {r c m : Nat} {s : IT} {t : Tb} (hp : PD p r c) (h : SI p r c m (c + 1) s t) : p.lp.Best (fun j => xR (c + r) s m j) := by
 have e : (fun j => xR (c + r) s m j) = pt m (c + r) t := by funext j; exact xR_val h.ir j m (Nat.le_refl _)
 rw [e]
 refine Im.best (fr := fun j => s.fr j = true) ?_
 rw [hp.n]; exact h.im
def Lin (p : LP) (m : Nat) (t : Tb) : Prop := ∀ i, i < m → ∀ j, j ≤ p.n + p.m → t.A i j = sm p.m (fun k => t.A i (p.n + k) * (ph1 p).A k j)
theorem ph1_art {p : LP} {i k : Nat} (hk : k < p.m) : (ph1 p).A i (p.n + k) = if k = i then 1 else 0 := by
 show (if p.n + k < p.n then _ else if p.n + k < p.n + p.m then (if p.n + k = p.n + i then (1 : Rat) else 0) else _) = _
 rw [if_neg (by omega), if_pos (by omega)]
 by_cases e : k = i
 ·rw [if_pos e, if_pos (by omega)]
 ·rw [if_neg e, if_neg (by omega)]
theorem Lin.first (p : LP) : Lin p p.m (ph1 p) := fun i hi j _ => by
 rw [sm_one (k := i) hi (fun k hk hne => by rw [ph1_art hk, if_neg hne, Rat.zero_mul]), ph1_art hi, if_pos rfl, Rat.one_mul]
theorem Lin.piv {p : LP} {m : Nat} {t : Tb} (h : Lin p m t) {r k : Nat} (hr : r < m) : Lin p m (t.piv r k) := fun i hi j hj => by
 have eq : ∀ j, j ≤ p.n + p.m → t.q r k j = sm p.m (fun l => t.q r k (p.n + l) * (ph1 p).A l j) := fun j hj => by
  unfold Tb.q
  rw [h r hr j hj, Rat.div_def, ← sm_mulr]
  exact sm_congr fun l _ => by rw [Rat.div_def]; grind
 show (if i = r then t.q r k j else t.A i j - t.A i k * t.q r k j) = sm p.m (fun l => (if i = r then t.q r k (p.n + l) else t.A i (p.n + l) - t.A i k * t.q r k (p.n + l)) * (ph1 p).A l j)
 by_cases e : i = r
 ·simp only [if_pos e]; exact eq j hj
 ·simp only [if_neg e]
  rw [eq j hj, h i hi j hj, ← sm_mul, ← sm_sub]
  exact sm_congr fun l _ => by grind
theorem Lin.del {p : LP} {m : Nat} {t : Tb} (h : Lin p (m + 1) t) (i : Nat) : Lin p m (t.del i) := fun a ha j hj => h (skp i a) (by unfold skp; split <;> omega) j hj
theorem Lin.steps {p : LP} {m N L K : Nat} {C : Nat → Nat → Rat} {fr : Nat → Prop} {st : Nat → Tb} (h : Lin p m (st 0)) (hs : ∀ n, n < K → ∃ k r, Step m N L C fr (st n) k r (st (n + 1))) : ∀ n, n ≤ K → Lin p m (st n)
 | 0, _ => h
 | n + 1, hn => by
  obtain ⟨k, r, s⟩ := hs n (by omega)
  rw [s.e]
  exact (Lin.steps h hs n (by omega)).piv s.lve.lt
theorem Lin.congr {p : LP} {m : Nat} {t t' : Tb} (h : Lin p m t) (e : ∀ i j, i < m → j ≤ p.n + p.m → t'.A i j = t.A i j) : Lin p m t' := fun i hi j hj => by
 rw [e i j hi hj, h i hi j hj]
 exact sm_congr fun k hk => by rw [e i _ hi (by omega)]
theorem IR.uniq {p : LP} {m N : Nat} {s : IT} {t t' : Tb} (h : IR p m N s t) (g : IR p m N s t') {i j : Nat} (hi : i < m) (hj : j ≤ N) : t'.A i j = t.A i j := by
 have hd := h.dpos
 have e1 := h.val i j hi hj
 have e2 := g.val i j hi hj
 rw [e1] at e2
 exact (mul_cancel (pos_ne hd) (by grind : (s.d : Rat) * t.A i j = (s.d : Rat) * t'.A i j)).symm
def mulY (p : LP) (m : Nat) (t : Tb) (c : Nat → Rat) (k : Nat) : Rat := sm m (fun i => c (t.β i) * t.A i (p.n + k)) * sg p k
theorem mulY_col {p : LP} {m : Nat} {t : Tb} (h : Lin p m t) {c : Nat → Rat} {j : Nat} (hj : j < p.n) : sm m (fun i => c (t.β i) * t.A i j) = sm p.m (fun k => mulY p m t c k * p.A k j) := by
 have e1 : sm m (fun i => c (t.β i) * t.A i j) = sm m (fun i => sm p.m (fun k => c (t.β i) * t.A i (p.n + k) * (ph1 p).A k j)) := sm_congr fun i hi => by
  rw [h i hi j (by omega), ← sm_mul]
  exact sm_congr fun k _ => by grind
 rw [e1, sm_comm]
 refine sm_congr fun k hk => ?_
 rw [sm_mulr]
 show _ * (if j < p.n then sg p k * p.A k j else _) = _
 rw [if_pos hj]
 unfold mulY; grind
theorem mulY_rhs {p : LP} {m : Nat} {t : Tb} (h : Lin p m t) {c : Nat → Rat} : val m (p.n + p.m) t c = sm p.m (fun k => mulY p m t c k * p.b k) := by
 unfold val
 have e1 : sm m (fun i => c (t.β i) * t.A i (p.n + p.m)) = sm m (fun i => sm p.m (fun k => c (t.β i) * t.A i (p.n + k) * (ph1 p).A k (p.n + p.m))) := sm_congr fun i hi => by
  rw [h i hi _ (Nat.le_refl _), ← sm_mul]
  exact sm_congr fun k _ => by grind
 rw [e1, sm_comm]
 refine sm_congr fun k hk => ?_
 rw [sm_mulr, ph1_rhs]
 unfold mulY; grind
def LP.Du (p : LP) (c y : Nat → Rat) : Prop := ∀ j, j < p.n → c j ≤ sm p.m (fun k => y k * p.A k j)
def LP.by (p : LP) (y : Nat → Rat) : Rat := sm p.m (fun k => y k * p.b k)
theorem LP.weak {p : LP} {c x y : Nat → Rat} (hx : p.Fx x) (hy : p.Du c y) : sm p.n (fun j => c j * x j) ≤ p.by y := by
 have e : p.by y = sm p.n (fun j => sm p.m (fun k => y k * p.A k j) * x j) := by
  unfold LP.by
  rw [sm_congr (g := fun k => sm p.n (fun j => y k * p.A k j * x j)) fun k hk => by rw [← hx.1 k hk, ← sm_mul]; exact sm_congr fun j _ => by grind, sm_comm]
  exact sm_congr fun j _ => by rw [sm_mulr]
 rw [e]
 exact sm_le fun j hj => Rat.mul_le_mul_of_nonneg_right (hy j hj) (hx.2 j hj)
theorem PD.farkas {p : Prg} {r c : Nat} (h : PD p r c) (hno : ¬ ∃ x, p.lp.Fx x) : ∃ y, p.lp.Du (fun _ => 0) y ∧ p.lp.by y < 0 := by
 obtain ⟨K, t, a1, a2, a3, a4, a5, a6, a7⟩ := h.endI
 obtain ⟨K', g1, g2, g3, g4⟩ := runI (o := o1 r c) h.ir
 have hK : K = K' := by
  rcases Nat.lt_trichotomy K K' with q | q | q
  ·rw [g2 K q] at a1; cases a1
  ·exact q
  ·rw [a2 K' q] at g1; cases g1
 subst hK
 have hm := h.m
 have hn := h.n
 have hN : p.lp.n + p.lp.m = c + r := by rw [hm, hn]
 obtain ⟨hir, hfr⟩ := g3 K (Nat.le_refl _)
 have hl := Lin.steps (p := p.lp) (by show Lin p.lp r (ph1 p.lp); rw [← hm]; exact Lin.first _) g4 K (Nat.le_refl _)
 have hent := (entI_spec hir (o1 r c)).2 a4
 rw [o1_c1 h] at hent
 generalize itI r (c + r) (o1 r c) (fstI p r c) K = s at *
 generalize itU r (c + r) (o1 r c) (fstI p r c) (ph1 p.lp) K = u at *
 refine ⟨mulY p.lp r u (c1 p.lp), fun j hj => ?_, ?_⟩
 ·have e := mulY_col hl (c := c1 p.lp) hj
  show 0 ≤ _
  rw [← e]
  have hg : gain r u (c1 p.lp) j ≤ 0 := by
   by_cases hb : Bas r u j
   ·rw [gain_bas hir.tab hb]; exact Rat.le_refl
   ·have := hent j (by omega) (by rw [hfr]; exact decide_eq_true (by omega)) hb
    rcases rlt_or_le 0 (gain r u (c1 p.lp) j) with q | q
    ·exact absurd q this
    ·exact q
  unfold gain at hg
  have hc0 : c1 p.lp j = 0 := by unfold c1; rw [if_pos hj]
  rw [hc0] at hg
  grind
 ·show p.lp.by _ < 0
  unfold LP.by
  rw [← mulY_rhs hl, hN]
  have hv : Go.Proofs.Ytchlpclgkhggeaa.val r (c + r) u (c1 p.lp) = -sm r (fun i => if c ≤ u.β i then u.A i (c + r) else 0) := by
   unfold Go.Proofs.Ytchlpclgkhggeaa.val
   rw [← sm_neg]
   refine sm_congr fun i hi => ?_
   have hbl := hir.tab.bl i hi
   unfold c1
   rw [hn, hm]
   by_cases q : u.β i < c
   ·rw [if_pos q, if_neg (by omega)]; grind
   ·rw [if_neg q, if_pos hbl, if_pos (by omega)]; grind
  have hnn : ∀ i, i < r → 0 ≤ (fun i => if c ≤ u.β i then u.A i (c + r) else 0) i := fun i hi => by
   show 0 ≤ if c ≤ u.β i then u.A i (c + r) else 0
   split
   ·exact hir.fea i hi
   ·exact Rat.le_refl
  have h0 := sm_nonneg hnn
  rw [hv]
  rcases rlt_or_le (-sm r (fun i => if c ≤ u.β i then u.A i (c + r) else 0)) 0 with q | q
  ·exact q
  ·exfalso
   have hz := sm_eq_zero hnn (by grind)
   refine hno (a6.1 fun i hi hb => ?_)
   have hb' : c ≤ u.β i := by rw [← hir.beta i hi]; exact hb
   have := hz i hi
   simp only [if_pos hb'] at this
   have := (hir.zero hi (Nat.le_refl _)).2 this
   omega
theorem CI.runL {p : Prg} {r c : Nat} (hp : PD p r c) : ∀ (f i m : Nat) (z : IT) (u : Tb), CI p r c i m z u → Lin p.lp m u → m = i + f → ∃ m' z' u', CI p r c m' m' z' u' ∧ Lin p.lp m' u'
 | 0, i, m, z, u, h, hl, e => by
  obtain rfl : m = i := by omega
  exact ⟨_, _, u, h, hl⟩
 | f + 1, i, m, z, u, h, hl, e => by
  by_cases hb : z.β i < c
  ·exact CI.runL hp f _ _ _ _ (h.skip hb) hl (by omega)
  ·by_cases hk : nzI z i c < c
   ·exact CI.runL hp f _ _ _ _ (CI.piv hp h (by omega) hb hk).2 (hl.piv (by omega)) (by omega)
   ·obtain ⟨m', rfl⟩ : ∃ m', m = m' + 1 := ⟨m - 1, by omega⟩
    exact CI.runL hp f _ _ _ _ (CI.del hp h (by omega) hb hk) (hl.del i) (by omega)
theorem PD.dual {p : Prg} {r c : Nat} (h : PD p r c) {x : Nat → Rat} (hx : p.lp.Best x) : ∃ y, p.lp.Du p.lp.c y ∧ p.lp.by y = p.lp.v x := by
 obtain ⟨K, t, a1, a2, a3, a4, a5, a6, a7⟩ := h.endI
 obtain ⟨K', g1, g2, g3, g4⟩ := runI (o := o1 r c) h.ir
 have hK : K = K' := by
  rcases Nat.lt_trichotomy K K' with q | q | q
  ·rw [g2 K q] at a1; cases a1
  ·exact q
  ·rw [a2 K' q] at g1; cases g1
 subst hK
 have hm := h.m
 have hn := h.n
 have hN : p.lp.n + p.lp.m = c + r := by rw [hm, hn]
 have hl0 := Lin.steps (p := p.lp) (by show Lin p.lp r (ph1 p.lp); rw [← hm]; exact Lin.first _) g4 K (Nat.le_refl _)
 have hlt : Lin p.lp r t := hl0.congr fun i j hi hj => (g3 K (Nat.le_refl _)).1.uniq a5 hi (by rw [← hN]; exact hj)
 have hci := CI.first (a5.fr fun k => decide (k < c)) (a7 ⟨x, hx.1⟩)
 obtain ⟨m, z, u, hcu, hlu⟩ := CI.runL h r 0 r _ _ hci hlt (by omega)
 have hs := SI.first h hcu
 obtain ⟨K2, b1, b2, b3, b4⟩ := runI (o := oS p 0) hs.ir
 obtain ⟨hir, hfr⟩ := b3 K2 (Nat.le_refl _)
 have hlw := Lin.steps (p := p.lp) (st := itU m (c + r) (oS p 0) { z with fr := fun k => decide (k < c) } u) hlu b4 K2 (Nat.le_refl _)
 have hph : ∀ n, n ≤ K2 → Ph2 p.lp (c + r) m (itU m (c + r) (oS p 0) { z with fr := fun k => decide (k < c) } u n) := by
  intro n
  induction n with
  | zero => intro _; exact hs.im.ph
  | succ n ih =>
   intro hn'
   obtain ⟨k, rr, st⟩ := b4 n (by omega)
   exact (ih (by omega)).step st (by rw [hn]; exact of_decide_eq_true st.ent.free)
 have hP := hph K2 (Nat.le_refl _)
 have hent := entI_spec hir (oS p 0)
 have hlv := fun hlt => lvI_spec (k := entI (itI m (c + r) (oS p 0) { z with fr := fun k => decide (k < c) } K2) m (c + r) (oS p 0)) hir hlt m (Nat.le_refl _)
 have hle : entI (itI m (c + r) (oS p 0) { z with fr := fun k => decide (k < c) } K2) m (c + r) (oS p 0) ≤ c + r := by unfold entI; exact fstN_spec.1
 rw [oS_C h] at hent
 unfold stopI at b1
 generalize entI (itI m (c + r) (oS p 0) { z with fr := fun k => decide (k < c) } K2) m (c + r) (oS p 0) = e at *
 generalize itI m (c + r) (oS p 0) { z with fr := fun k => decide (k < c) } K2 = w at *
 generalize itU m (c + r) (oS p 0) { z with fr := fun k => decide (k < c) } u K2 = q at *
 have hee : e = c + r := by
  rcases Nat.lt_or_eq_of_le hle with hlt | e0
  ·exfalso
   have he := hent.1 hlt
   have hl := hlv hlt
   cases e2 : lvI w (c + r) e m with
   | some b =>
    rw [e2] at b1
    simp only [Option.isNone_some, Bool.or_false, decide_eq_true_iff] at b1
    omega
   | none =>
    rw [e2] at hl
    have hfe : w.fr e = true := he.free
    rw [hfr] at hfe
    have := hP.open (l0 := 0) he (by rw [hn]; exact of_decide_eq_true hfe) hl fun l' hl' => by
     have : l' = 0 := by omega
     rw [this]
    exact this.2.not_best hx
  ·exact e0
 have hend := hent.2 hee
 have hD : p.lp.Du p.lp.c (mulY p.lp m q p.lp.c) := fun j hj => by
  rw [← mulY_col hlw hj]
  have hg : gain m q (p.lp.C 0) j ≤ 0 := by
   by_cases hb : Bas m q j
   ·rw [gain_bas hir.tab hb]; exact Rat.le_refl
   ·have := hend j (by omega) (by rw [hfr]; exact decide_eq_true (by omega)) hb
    rcases rlt_or_le 0 (gain m q (p.lp.C 0) j) with q1 | q1
    ·exact absurd q1 this
    ·exact q1
  unfold gain at hg
  show p.lp.c j ≤ _
  have : p.lp.C 0 = p.lp.c := rfl
  rw [this] at hg
  grind
 have hv : p.lp.by (mulY p.lp m q p.lp.c) = p.lp.v (pt m (c + r) q) := by
  unfold LP.by
  rw [← mulY_rhs hlw, hN, hP.val]; rfl
 refine ⟨mulY p.lp m q p.lp.c, hD, ?_⟩
 have h1 := LP.weak hx.1 hD
 have h2 := hx.max hP.fx
 rw [hv]
 rw [hv] at h1
 have h1 : p.lp.v x ≤ p.lp.v (pt m (c + r) q) := h1
 grind
abbrev zwO (N : Nat) (g : Nat → Int) : Ob := ⟨.own, T_impl_BigInt, zC (N + 1) g⟩
abbrev uZ (N : Nat) (W : Nat → Nat → Int) : Nat → V := fun i => zrow .u N (W i)
abbrev tiO (m N : Nat) (s : IT) : Ob := ⟨.own, T_impl_tableau, tiC .u m N s⟩
abbrev topI (m N a b : Nat) (d : Int) (fr : Nat → Bool) : Ob := ⟨.own, T_impl_tableau, [.rsl a 1 0 m, Bo (zb d), sI .s (lim d.natAbs), .rsl b 1 0 m, I N, .sl .u 1 N (frC N fr)]⟩
theorem ti_open {n0 : Nat} {tm : List (Nat × V)} {m N r : Nat} {s : IT} (hr : r < m) : StI n0 ⟨tm, [tiO m N s]⟩ ⟨tm, [topI m N 1 2 s.d s.fr, ⟨.own, T_sl_impl_BigInt, gL m (updV (uZ N s.W) r (.rsl 3 2 0 (N + 1)))⟩, ⟨.own, T_int, iC (bL m s.β)⟩, zwO N (s.W r)]⟩ := by
 have h1 := StI.open (n0 := n0) (tm := tm) (H := [tiO m N s]) 0 0 (ty := T_impl_tableau) (cs := tiC .u m N s) (cs0 := rwZ .u m N s.W) (sz := 1) (n := m) rfl rfl T_sl_impl_BigInt
 have h2 := StI.open (n0 := n0) (tm := tm) (H := [⟨.own, T_impl_tableau, [.rsl 1 1 0 m, Bo (zb s.d), sI .s (lim s.d.natAbs), .sl .u 1 m (iC (bL m s.β)), I N, .sl .u 1 N (frC N s.fr)]⟩, ⟨.own, T_sl_impl_BigInt, rwZ .u m N s.W⟩]) 0 3 (ty := T_impl_tableau) (cs := [.rsl 1 1 0 m, Bo (zb s.d), sI .s (lim s.d.natAbs), .sl .u 1 m (iC (bL m s.β)), I N, .sl .u 1 N (frC N s.fr)]) (cs0 := iC (bL m s.β)) (sz := 1) (n := m) rfl rfl T_int
 have h3 := StI.open (n0 := n0) (tm := tm) (H := [topI m N 1 2 s.d s.fr, ⟨.own, T_sl_impl_BigInt, gL m (uZ N s.W)⟩, ⟨.own, T_int, iC (bL m s.β)⟩]) 1 r (ty := T_sl_impl_BigInt) (cs := gL m (uZ N s.W)) (cs0 := zC (N + 1) (s.W r)) (sz := 2) (n := N + 1) rfl (gL_get hr) T_impl_BigInt
 rw [gL_set] at h3
 exact (h1.trans h2).trans h3
theorem rn_zrow {H : List Ob} {js : List (Option Nat)} {bk : Bool} {k N : Nat} {ty : TypeId} {g : Nat → Int} (h : H[k]? = some ⟨.own, ty, zC (N + 1) g⟩) : Rn H js bk (.rsl k 2 0 (N + 1)) (zrow .u N g) [k] := by
 have e : (zC (N + 1) g).take ((N + 1) * 2) = zC (N + 1) g := List.take_of_length_le (by rw [zC_length]; exact Nat.le_refl _)
 refine Rn.cl js bk k 2 (N + 1) ⟨.own, ty, zC (N + 1) g⟩ (zC (N + 1) g) [] h rfl (by show (N + 1) * 2 ≤ _; rw [zC_length]; exact Nat.le_refl _) ?_
 rw [e]
 exact RnL.same (zC_all (fun _ => trivial) (fun _ => trivial)) (fun _ => nb_zC)
theorem ti_close {H : List Ob} {js : List (Option Nat)} {bk : Bool} {m N r a b q : Nat} {s : IT} {h : Nat → V} {t1 t2 t3 : TypeId} (hr : r < m) (h1 : H[a]? = some ⟨.own, t1, gL m (updV h r (.rsl q 2 0 (N + 1)))⟩) (h2 : H[b]? = some ⟨.own, t2, iC (bL m s.β)⟩) (h3 : H[q]? = some ⟨.own, t3, zC (N + 1) (s.W r)⟩) (ho : ∀ a, a < m → a ≠ r → h a = uZ N s.W a) :
  RnL H js bk [.rsl a 1 0 m, Bo (zb s.d), sI .s (lim s.d.natAbs), .rsl b 1 0 m, I N, .sl .u 1 N (frC N s.fr)] (tiC .u m N s) [a, q, b] := by
 have e : (gL m (updV h r (.rsl q 2 0 (N + 1)))).take (m * 1) = gL m (updV h r (.rsl q 2 0 (N + 1))) := List.take_of_length_le (by rw [gL_length]; omega)
 refine .cons _ _ _ _ _ _ [a, q] [b] ?_ (.cons _ _ _ _ _ _ [] [b] (.same _ _ _ trivial (fun _ => trivial)) (.cons _ _ _ _ _ _ [] [b] (.same _ _ _ trivial (fun _ => trivial)) (.cons _ _ _ _ _ _ [b] [] (rn_bas h2) (.cons _ _ _ _ _ _ [] [] (.same _ _ _ trivial (fun _ => trivial)) (.cons _ _ _ _ _ _ [] [] (.same _ _ _ trivial (fun _ => trivial)) (.nil _ _))))))
 refine Rn.cl js bk a 1 m ⟨.own, t1, gL m (updV h r (.rsl q 2 0 (N + 1)))⟩ _ [q] h1 rfl (by show m * 1 ≤ _; rw [gL_length]; omega) ?_
 rw [e, rwZ_gL]
 refine gL_rn1 hr (by rw [updV_self]; exact rn_zrow h3) (fun a ha har => ?_)
 rw [updV_ne har, ho a ha har]
 exact .same _ _ _ trivial (fun _ => trivial)
end Go.Proofs.Ytchlpclgkhggeaa