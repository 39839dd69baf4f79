/- part of the proof -/
import Derived.Test.YtchlpclgkhggeaaTUc
import Derived.Test.YtchlpclgkhggeaaTUm
namespace Go.Proofs.Ytchlpclgkhggeaa
open Go Go.RowKit
set_option maxRecDepth 100000
set_option maxHeartbeats 4000000
set_option linter.unusedVariables false
set_option linter.unusedSimpArgs false
theorem wSum_val {l : List Int} {x : List FQ} {v : Nat → Rat} {k : Nat} (hl : ∀ i, i < l.length → -100 ≤ l.getD i 0 ∧ l.getD i 0 ≤ 100) (hx : ∀ i, i < l.length → FV (x.getD i FQ.bad) (v i) k) (hK : l.length * (k + 8) ≤ 696) :
  FV (wSum l x) (sm l.length fun i => ((l.getD i 0 : Int) : Rat) * v i) (l.length * (k + 8)) := by
 have gen : ∀ m, m ≤ l.length → FV (sumQ (fun i => (FQ.ofInt (l.getD i 0)).mul (x.getD i FQ.bad)) m) (sm m fun i => ((l.getD i 0 : Int) : Rat) * v i) (m * (k + 8)) := by
  intro m
  induction m with
  | zero => intro _; exact FV.ofInt (z := 0) (Nat.zero_le _) (by omega)
  | succ m ih =>
   intro hm
   have h1 := ih (by omega)
   have hb := hl m (by omega)
   have hmk : (m + 1) * (k + 8) ≤ 696 := Nat.le_trans (Nat.mul_le_mul_right _ hm) hK
   have e : (m + 1) * (k + 8) = m * (k + 8) + (k + 8) := Nat.succ_mul _ _
   have h2 : FV (FQ.ofInt (l.getD m 0)) ((l.getD m 0 : Int) : Rat) 7 := FV.ofInt (by show _ ≤ 128; omega) (by omega)
   have h3 := h2.mul (hx m (by omega)) (by omega)
   have h4 := h1.add h3 (by omega)
   exact h4.mono (by omega)
 exact gen _ (Nat.le_refl _)
theorem Sz.sm {n k : Nat} {f : Nat → Rat} (h : ∀ j, j < n → Sz (f j) k) : Sz (Go.Proofs.Ytchlpclgkhggeaa.sm n f) (n * (k + 1)) := by
 induction n with
 | zero => exact Sz.int (z := 0) (Nat.zero_le _)
 | succ n ih => exact ((ih fun j hj => h j (by omega)).add (h n (by omega))).mono (by rw [Nat.succ_mul]; omega)
theorem xR_szk {p : LP} {m N : Nat} {s : IT} {t : Tb} (h : IR p m N s t) {k : Nat} (hk : bnd 100 p.m ≤ 2 ^ k) (j : Nat) : ∀ i, i ≤ m → Sz (xR N s i j) k
 | 0, _ => Sz.int (z := 0) (Nat.zero_le _)
 | i + 1, hi => by
  show Sz (if j = s.β i then mkRat (s.W i N) s.d.natAbs else xR N s i j) k
  split
  ·rw [h.rat (by omega) (Nat.le_refl _)]
   obtain ⟨δ, hb, _⟩ := h.bd
   obtain ⟨h1, h2, h3⟩ := hb.val
   exact Sz.of_ib (h3 i N (by omega) (Nat.le_refl _)) h2 h1 hk hk
  ·exact xR_szk h hk j i (by omega)
theorem PD.best_sz {p : Prg} {r c : Nat} (h : PD p r c) {x : Nat → Rat} (hx : p.lp.Best x) {k : Nat} (hk : bnd 100 r ≤ 2 ^ k) : ∀ j, j < c → Sz (x j) k := by
 obtain ⟨K, t, a1, a2, a3, a4, a5, a6, a7⟩ := h.endI
 have hci := CI.first (a5.fr fun k => decide (k < c)) (a7 ⟨x, hx.1⟩)
 obtain ⟨u', hu'⟩ := CI.run h r 0 r _ _ hci (by omega)
 have q := SI.first h hu'
 obtain ⟨K2, t', b1, b2, b3, b4, b5⟩ := SI.max h q
 have he : entI (itI (lvv c r 0 r { itI r (c + r) (o1 r c) (fstI p r c) K with fr := fun k => decide (k < c) }).1 (c + r) (oS p 0) { (lvv c r 0 r { itI r (c + r) (o1 r c) (fstI p r c) K with fr := fun k => decide (k < c) }).2 with fr := fun k => decide (k < c) } K2) (lvv c r 0 r { itI r (c + r) (o1 r c) (fstI p r c) K with fr := fun k => decide (k < c) }).1 (c + r) (oS p 0) = c + r := Classical.byContradiction fun e => (b5 e).2.not_best hx
 obtain ⟨s', t2, g⟩ := SI.up h c (b4 he)
 have hb := SI.best h g
 intro j hj
 rw [(hx.uniq hb).2 j (by rw [h.n]; exact hj)]
 exact xR_szk g.ir (by rw [h.m]; exact hk) j _ (Nat.le_refl _)
theorem solP_lp {p : Prg} (ho : okP' p = true) : (∃ x, p.lp.Best x ∧ solP p = ⟨0, (rowQ p.cols.toNat fun j => FQ.fit (x j)).map qd, qd (FQ.fit (p.lp.v x))⟩) ∨ ((∃ x, p.lp.Fx x) ∧ (¬ ∃ x, p.lp.Best x) ∧ solP p = ⟨3, [], RD.zero⟩) ∨ ((¬ ∃ x, p.lp.Fx x) ∧ solP p = ⟨2, [], RD.zero⟩) := by
 have e : solP p = lpR p := if_pos ho
 rw [e]
 unfold lpR
 rcases lpOf_cases p.lp with ⟨x, hx, h⟩ | ⟨h1, h2, h⟩ | ⟨h1, h⟩
 ·exact .inl ⟨x, hx, by rw [h]; rfl⟩
 ·exact .inr (.inl ⟨h1, h2, by rw [h, show qd FQ.bad = RD.zero from qd_bad]; rfl⟩)
 ·exact .inr (.inr ⟨h1, by rw [h, show qd FQ.bad = RD.zero from qd_bad]; rfl⟩)
theorem rowI_get {p : Prg} {r c : Nat} (h : PD p r c) {i j : Nat} (hi : i < r) (hj : j < c) : (((rowI p i).getD j 0 : Int) : Rat) = p.lp.A i j := by
 rw [(h.a i j hi hj).1, h.A]
structure VL (L : List RD) (n : Nat) (v : Nat → Rat) (k : Nat) : Prop where
 len : L.length = n
 val : ∀ j, j < n → FV ((L.map rdq).getD j FQ.bad) (v j) k
theorem VL.ok {L : List RD} {n : Nat} {v : Nat → Rat} {k : Nat} (h : VL L n v k) : L.all RD.ok = true := by
 rw [List.all_eq_true]
 intro x hx
 obtain ⟨j, hj, rfl⟩ := List.mem_iff_getElem.1 hx
 have := (h.val j (by rw [← h.len]; exact hj)).good
 rw [List.getD_eq_getElem?_getD, List.getElem?_eq_getElem (by rw [List.length_map]; exact hj)] at this
 simp only [List.getElem_map, Option.getD_some] at this
 rwa [rdq_good] at this
theorem VL.of {n : Nat} {g : Nat → FQ} {v : Nat → Rat} {k : Nat} (h : ∀ j, j < n → FV (g j) (v j) k) : VL ((rowQ n g).map qd) n v k := by
 refine ⟨by rw [List.length_map, rowQ_length], fun j hj => ?_⟩
 rw [show ((rowQ n g).map qd).map rdq = rowQ n g by rw [List.map_map]; exact (List.map_congr_left fun a _ => rdq_qd a).trans (List.map_id _), rowQ_get hj]
 exact h j hj
theorem VL.valid {p : Prg} {L : List RD} {n : Nat} {v : Nat → Rat} {k : Nat} (h : VL L n v k) (ho : okP' p = true) {m : Int} (hm : m = n) : validX p L m = true := by
 unfold validX
 rw [ho, h.ok, decide_eq_true (by rw [h.len, hm])]; rfl
theorem objQ_val {p : Prg} {r c : Nat} (hd : PD p r c) (ho : okP' p = true) (hc : p.cols = c) {L : List RD} {v : Nat → Rat} {k : Nat} (h : VL L c v k) (hK : c * (k + 8) ≤ 696) : FV (objQ p L) (p.lp.v v) (c * (k + 8)) := by
 obtain ⟨_, _, _, _, hcl, _, _, ic⟩ := okP_spec ho
 have hcL : p.c.length = c := by omega
 unfold objQ
 rw [if_pos (h.valid ho hc)]
 have := wSum_val (l := p.c) (x := L.map rdq) (v := v) (k := k) (fun i _ => hd.cc i) (fun i hi => h.val i (by omega)) (by rw [hcL]; exact hK)
 rw [hcL] at this
 have e : p.lp.v v = sm c fun i => ((p.c.getD i 0 : Int) : Rat) * v i := by
  unfold LP.v; rw [hd.n]; exact sm_congr fun j _ => by rw [hd.C]
 rw [e]; exact this
theorem bndQ_val {p : Prg} {r c : Nat} (hd : PD p r c) (ho : okP' p = true) (hr : p.rows = r) {L : List RD} {v : Nat → Rat} {k : Nat} (h : VL L r v k) (hK : r * (k + 8) ≤ 696) : FV (bndQ p L) (p.lp.by v) (r * (k + 8)) := by
 obtain ⟨_, _, _, hbl, _, _, ib, _⟩ := okP_spec ho
 have hbL : p.b.length = r := by omega
 unfold bndQ
 rw [if_pos (h.valid ho hr)]
 have := wSum_val (l := p.b) (x := L.map rdq) (v := v) (k := k) (fun i hi => hd.b i (by omega)) (fun i hi => h.val i (by omega)) (by rw [hbL]; exact hK)
 rw [hbL] at this
 have e : p.lp.by v = sm r fun i => ((p.b.getD i 0 : Int) : Rat) * v i := by
  unfold LP.by; rw [hd.m]; exact sm_congr fun j _ => by rw [hd.B]; grind
 rw [e]; exact this
theorem feasB_yes {p : Prg} {r c : Nat} (hd : PD p r c) (ho : okP' p = true) (hr : p.rows = r) (hc : p.cols = c) {L : List RD} {v : Nat → Rat} {k : Nat} (h : VL L c v k) (hK : c * (k + 8) ≤ 696) (hf : p.lp.Fx v) : feasB p L = true := by
 unfold feasB
 rw [h.valid ho hc, Bool.true_and, Bool.and_eq_true]
 refine ⟨?_, ?_⟩
 ·rw [List.all_eq_true]
  intro x hx
  obtain ⟨j, hj, rfl⟩ := List.mem_iff_getElem.1 hx
  have hjc : j < c := by rw [← h.len]; exact hj
  have hv := h.val j hjc
  rw [List.getD_eq_getElem?_getD, List.getElem?_eq_getElem (by rw [List.length_map]; exact hj)] at hv
  simp only [List.getElem_map, Option.getD_some] at hv
  have hn := hf.2 j (by rw [hd.n]; exact hjc)
  have : ¬ (rdq L[j]).num < 0 := by
   rw [hv.numv]
   have := Rat.num_nonneg.2 hn
   omega
  rw [decide_eq_false this]; rfl
 ·rw [List.all_eq_true]
  intro i hi
  have hir : i < r := by have := List.mem_range.1 hi; omega
  have hl : (rowI p i).length = c := by
   obtain ⟨c', e1, e2, e3, e4, e5, e6⟩ := rowI_facts ho (i := i) (by omega)
   omega
  have hw := wSum_val (l := rowI p i) (x := L.map rdq) (v := v) (k := k) (fun j hj => by
   obtain ⟨a1, a2, a3⟩ := hd.a i j hir (by omega)
   rw [a1]; omega) (fun j hj => h.val j (by omega)) (by rw [hl]; exact hK)
  rw [hl] at hw
  have hb := hd.b i hir
  have hbv : FV (FQ.ofInt (p.b.getD i 0)) ((p.b.getD i 0 : Int) : Rat) 7 := FV.ofInt (by show _ ≤ 128; omega) (by omega)
  have e : sm c (fun j => (((rowI p i).getD j 0 : Int) : Rat) * v j) = ((p.b.getD i 0 : Int) : Rat) := by
   rw [← hd.B, ← hf.1 i (by rw [hd.m]; exact hir), hd.n]
   exact sm_congr fun j hj => by rw [rowI_get hd hir hj]
  unfold rowB
  rw [hw.good, decide_eq_true ((hw.cmp_eq hbv).2 e)]; rfl
end Go.Proofs.Ytchlpclgkhggeaa