/- part of the proof -/
import Derived.Test.YtchlpclgkhggeaaTXg
import Derived.Test.YtchlpclgkhggeaaTIa
import Derived.Test.YtchlpclgkhggeaaTTa
import Derived.Test.YtchlpclgkhggeaaTXk
namespace Go.Proofs.Ytchlpclgkhggeaa
open Go Go.RowKit
set_option maxRecDepth 100000
set_option maxHeartbeats 4000000
set_option linter.unusedVariables false
set_option linter.unusedSimpArgs false
theorem rng_get' {P : Nat → Bool} {n k : Nat} (h : (List.range n).all P = true) (hk : k < n) : P k = true := by
  rw [List.all_eq_true] at h; exact h k (List.mem_range.2 hk)
theorem rng_step' {P : Nat → Bool} {k : Nat} (h : (List.range k).all P = true) (h2 : P k = true) : (List.range (k + 1)).all P = true := by
  rw [List.range_succ, List.all_append, h]; simp [h2]
theorem rng_no' {P : Nat → Bool} {n k : Nat} (hk : k < n) (h : P k = false) : (List.range n).all P = false := by
  cases e : (List.range n).all P with
  | false => rfl
  | true => have := rng_get' e hk; rw [h] at this; exact absurd this (by decide)
theorem sml_b {p : Prg} (ho : okP' p = true) {j : Nat} (hj : (j : Int) < p.rows) : -100 ≤ p.b.getD j 0 ∧ p.b.getD j 0 ≤ 100 := by
  obtain ⟨_, _, hal, hbl, hcl, ia, ib, ic⟩ := okP_spec ho
  exact inB_get ib (by omega)
theorem sg_lt {z : Int} : sgZ z < 0 ↔ z < 0 := by
  unfold sgZ
  split
  · omega
  · split <;> omega
def rowI (p : Prg) (i : Nat) : List Int := (p.a.drop (i * p.cols.toNat)).take p.cols.toNat
theorem rowI_facts {p : Prg} (ho : okP' p = true) {i : Nat} (hi : (i : Int) < p.rows) : ∃ c : Nat, p.cols = c ∧ c ≤ 40 ∧ i * c + c ≤ p.a.length ∧ p.a.length ≤ 800 ∧ (rowI p i).length = c ∧ rowI p i = (p.a.drop (i * c)).take c := by
  obtain ⟨⟨r1, r2⟩, ⟨c1, c2⟩, hal, _⟩ := okP_spec ho
  obtain ⟨c, hc⟩ : ∃ c : Nat, p.cols = c := ⟨p.cols.toNat, by omega⟩
  obtain ⟨r, hr⟩ : ∃ r : Nat, p.rows = r := ⟨p.rows.toNat, by omega⟩
  rw [hr, hc, ← Int.natCast_mul] at hal
  have h1 : (i + 1) * c ≤ r * c := Nat.mul_le_mul_right c (by omega)
  have h2 : r * c ≤ 20 * 40 := Nat.mul_le_mul (by omega) (by omega)
  rw [Nat.succ_mul] at h1
  have e : p.cols.toNat = c := by omega
  refine ⟨c, hc, by omega, by omega, by omega, ?_, by unfold rowI; rw [e]⟩
  unfold rowI
  rw [e, List.length_take, List.length_drop]
  omega
theorem sml_row {p : Prg} (ho : okP' p = true) {i : Nat} (hi : (i : Int) < p.rows) : sml (rowI p i) := by
  obtain ⟨c, hc, h40, h1, h2, hl, e⟩ := rowI_facts ho hi
  obtain ⟨_, _, _, _, _, ia, _⟩ := okP_spec ho
  intro k hk
  rw [hl] at hk
  have : (rowI p i).getD k 0 = p.a.getD (i * c + k) 0 := by
    rw [e, List.getD_eq_getElem?_getD, List.getElem?_take_of_lt hk, List.getElem?_drop, ← List.getD_eq_getElem?_getD]
  rw [this]
  exact inB_get ia (by omega)
theorem iC_cut {l : List Int} {i c : Nat} : ((iC l).drop i).take c = iC ((l.drop i).take c) := by simp [iC, List.map_take, List.map_drop]
noncomputable def rowB (p : Prg) (x : List FQ) (i : Nat) : Bool := (wSum (rowI p i) x).good && decide ((wSum (rowI p i) x).cmp (FQ.ofInt (p.b.getD i 0)) = 0)
noncomputable def feasB (p : Prg) (l : List RD) : Bool := validX p l p.cols && l.all (fun r => !decide ((rdq r).num < 0)) && (List.range p.rows.toNat).all (rowB p (l.map rdq))
end Go.Proofs.Ytchlpclgkhggeaa

namespace Go.Proofs.Ytchlpclgkhggeaa
open Go Go.RowKit
set_option maxRecDepth 100000
set_option maxHeartbeats 4000000
set_option linter.unusedVariables false
set_option linter.unusedSimpArgs false
def sgR (p : Prg) (i : Nat) : Int := if p.b.getD i 0 < 0 then -1 else 1
def fstM (p : Prg) (r c : Nat) (i j : Nat) : FQ := if j < c then FQ.ofInt (sgR p i * (rowI p i).getD j 0) else if j < c + r then FQ.ofInt (if j - c = i then 1 else 0) else FQ.ofInt (sgR p i * p.b.getD i 0)
def fstC (p : Prg) (r c : Nat) : Nat → Nat → FQ
  | 0, _ => FQ.ofInt 0
  | i + 1, j => if j < c ∨ j = c + r then (fstC p r c i j).add (fstM p r c i j) else fstC p r c i j
theorem row_push {c : Nat} {g : Nat → FQ} {x : FQ} (h : g c = x) : rsC .s ((rowQ c g).map qd) ++ [Bo (qd x).neg, sI .s (qd x).mag, sI .s (qd x).den] = rsC .s ((rowQ (c + 1) g).map qd) := by
  rw [rs_app]
  unfold rowQ
  rw [List.range_succ, List.map_append, List.map_append, ← h]; rfl
theorem bL_succ {m : Nat} {β : Nat → Nat} : bL (m + 1) β = bL m β ++ [(β m : Int)] := by
  unfold bL; rw [List.range_succ, List.map_append]; rfl
end Go.Proofs.Ytchlpclgkhggeaa

namespace Go.Proofs.Ytchlpclgkhggeaa
open Go Go.RowKit
set_option maxRecDepth 100000
set_option maxHeartbeats 4000000
set_option linter.unusedVariables false
set_option linter.unusedSimpArgs false
def kp (c : Nat) (s : SP) : Nat → List Nat
  | 0 => []
  | i + 1 => if s.β i < c then kp c s i ++ [i] else kp c s i
end Go.Proofs.Ytchlpclgkhggeaa

namespace Go.Proofs.Ytchlpclgkhggeaa
open Go Go.RowKit
set_option maxRecDepth 100000
set_option maxHeartbeats 4000000
set_option linter.unusedVariables false
set_option linter.unusedSimpArgs false
structure PD (p : Prg) (r c : Nat) : Prop where
  r20 : r ≤ 20
  c40 : c ≤ 40
  m : p.lp.m = r
  n : p.lp.n = c
  a : ∀ i j, i < r → j < c → (rowI p i).getD j 0 = p.a.getD (i * c + j) 0 ∧ -100 ≤ p.a.getD (i * c + j) 0 ∧ p.a.getD (i * c + j) 0 ≤ 100
  b : ∀ i, i < r → -100 ≤ p.b.getD i 0 ∧ p.b.getD i 0 ≤ 100
  cc : ∀ j, -100 ≤ p.c.getD j 0 ∧ p.c.getD j 0 ≤ 100
  cn : p.c.getD c 0 = 0
  A : ∀ i j, p.lp.A i j = ((p.a.getD (i * c + j) 0 : Int) : Rat)
  B : ∀ i, p.lp.b i = ((p.b.getD i 0 : Int) : Rat)
  C : ∀ j, p.lp.c j = ((p.c.getD j 0 : Int) : Rat)
theorem ix_lt' {i j r c : Nat} (hi : i < r) (hj : j < c) : i * c + j < r * c := by
  have : (i + 1) * c ≤ r * c := Nat.mul_le_mul_right c (by omega)
  rw [Nat.add_mul, Nat.one_mul] at this; omega
theorem PD.mk' {p : Prg} {r c : Nat} (ho : okP' p = true) (hr : p.rows = r) (hc : p.cols = c) : PD p r c := by
  have hF := fun i => @rowI_facts p ho i
  obtain ⟨⟨r1, r2⟩, ⟨c1, c2⟩, hal, hbl, hcl, ia, ib, ic⟩ := okP_spec ho
  have hn : p.cols.toNat = c := by omega
  have hL : p.a.length = r * c := by rw [hr, hc] at hal; exact_mod_cast hal
  refine ⟨by omega, by omega, by show p.rows.toNat = r; omega, hn, fun i j hi hj => ?_, fun i hi => inB_get ib (by omega), fun j => ?_, ?_, fun i j => ?_, fun _ => rfl, fun _ => rfl⟩
  · obtain ⟨c', e1, e2, e3, e4, e5, e6⟩ := hF i (by omega)
    have hcc : c' = c := by omega
    subst hcc
    refine ⟨?_, inB_get ia (by rw [hL]; exact ix_lt' hi hj)⟩
    rw [e6, List.getD_eq_getElem?_getD, List.getElem?_take_of_lt hj, List.getElem?_drop, ← List.getD_eq_getElem?_getD]
  · by_cases hj : j < p.c.length
    · exact inB_get ic hj
    · rw [List.getD_eq_getElem?_getD, List.getElem?_eq_none (by omega)]; exact ⟨by decide, by decide⟩
  · rw [List.getD_eq_getElem?_getD, List.getElem?_eq_none (by omega)]; rfl
  · show ((p.a.getD (i * p.cols.toNat + j) 0 : Int) : Rat) = _
    rw [hn]
theorem PD.sgn {p : Prg} {r c : Nat} (h : PD p r c) (i : Nat) : sg p.lp i = ((sgR p i : Int) : Rat) := by
  unfold sg sgR
  rw [h.B]
  by_cases e : p.b.getD i 0 < 0
  · rw [if_pos e, if_pos (by exact_mod_cast e)]; rfl
  · rw [if_neg e, if_neg (fun q => e (by exact_mod_cast q))]; rfl
theorem sgR_abs {p : Prg} {i : Nat} : sgR p i = 1 ∨ sgR p i = -1 := by unfold sgR; split <;> simp
theorem PD.int {p : Prg} {r c : Nat} (h : PD p r c) {i j : Nat} (hi : i < r) (hj : j ≤ c + r) : ∃ z : Int, fstM p r c i j = FQ.ofInt z ∧ (ph1 p.lp).A i j = (z : Rat) ∧ z.natAbs ≤ 100 := by
  unfold fstM
  show ∃ z : Int, _ ∧ (if j < p.lp.n then sg p.lp i * p.lp.A i j else if j < p.lp.n + p.lp.m then (if j = p.lp.n + i then (1 : Rat) else 0) else sg p.lp i * p.lp.b i) = _ ∧ _
  rw [h.n, h.m]
  have hs := sgR_abs (p := p) (i := i)
  by_cases h1 : j < c
  · obtain ⟨a1, a2, a3⟩ := h.a i j hi h1
    refine ⟨sgR p i * p.a.getD (i * c + j) 0, by rw [if_pos h1, a1], by rw [if_pos h1, h.sgn, h.A, Rat.intCast_mul], ?_⟩
    rcases hs with e | e <;> rw [e] <;> omega
  · by_cases h2 : j < c + r
    · refine ⟨if j - c = i then 1 else 0, by rw [if_neg h1, if_pos h2], ?_, by split <;> decide⟩
      rw [if_neg h1, if_pos h2]
      by_cases e : j = c + i
      · rw [if_pos e, if_pos (by omega)]; rfl
      · rw [if_neg e, if_neg (by omega)]; rfl
    · obtain ⟨b1, b2⟩ := h.b i hi
      refine ⟨sgR p i * p.b.getD i 0, by rw [if_neg h1, if_neg h2], by rw [if_neg h1, if_neg h2, h.sgn, h.B, Rat.intCast_mul], ?_⟩
      rcases hs with e | e <;> rw [e] <;> omega
theorem le_pow {a k : Nat} (h : a ≤ 100) (hk : 7 ≤ k) : a ≤ 2 ^ k := Nat.le_trans (Nat.le_trans h (by decide : 100 ≤ 2 ^ 7)) (Nat.pow_le_pow_right (by decide) hk)
theorem PD.val {p : Prg} {r c : Nat} (h : PD p r c) {i j : Nat} (hi : i < r) (hj : j ≤ c + r) {k : Nat} (hk : 7 ≤ k) (hk2 : k ≤ 696) : FV (fstM p r c i j) ((ph1 p.lp).A i j) k := by
  obtain ⟨z, e1, e2, e3⟩ := h.int hi hj
  rw [e1, e2]
  exact FV.ofInt (le_pow e3 hk) hk2
theorem PD.bd {p : Prg} {r c : Nat} (h : PD p r c) : Bd p.lp 100 p.lp.m (p.lp.n + p.lp.m) (ph1 p.lp) 1 := Bd.first fun i j hi hj => by
  obtain ⟨z, _, e2, e3⟩ := h.int (i := i) (j := j) (by rw [← h.m]; exact hi) (by rw [← h.m, ← h.n]; exact hj)
  exact ⟨z, e2, e3⟩
theorem PD.cost {p : Prg} {r c : Nat} (h : PD p r c) {j : Nat} (hj : j < c ∨ j = c + r) : ∀ i, i ≤ r → FV (fstC p r c i j) (sm i fun a => (ph1 p.lp).A a j) (8 * i + 7)
  | 0, _ => FV.ofInt (z := 0) (by decide) (by omega)
  | i + 1, hi => by
    have ih := PD.cost h hj i (by omega)
    have := ih.add (h.val (i := i) (j := j) (k := 7) (by omega) (by omega) (by omega) (by omega)) (by have := h.r20; omega)
    show FV (if j < c ∨ j = c + r then (fstC p r c i j).add (fstM p r c i j) else fstC p r c i j) (sm i _ + _) _
    rw [if_pos hj]
    exact this.mono (by omega)
end Go.Proofs.Ytchlpclgkhggeaa

namespace Go.Proofs.Ytchlpclgkhggeaa
open Go Go.RowKit
set_option maxRecDepth 100000
set_option maxHeartbeats 4000000
set_option linter.unusedVariables false
set_option linter.unusedSimpArgs false
theorem FV.fit {x : FQ} {r : Rat} {k : Nat} (h : FV x r k) (hk : k ≤ 696) : x = FQ.fit r := FQ.ext (by rw [h.v, fit_sz h.s hk])
noncomputable def lpR (p : Prg) : QD := ⟨(lpOf p.lp).1, (lpOf p.lp).2.1.map qd, qd (lpOf p.lp).2.2⟩
end Go.Proofs.Ytchlpclgkhggeaa

namespace Go.Proofs.Ytchlpclgkhggeaa
open Go Go.RowKit
set_option maxRecDepth 100000
set_option maxHeartbeats 4000000
set_option linter.unusedVariables false
set_option linter.unusedSimpArgs false
theorem sgn_div' (p q : Bool) (a b : Nat) : sgn (p != q) (a / b) = (sgn p a).tdiv (sgn q b) := by
  have e : ((a / b : Nat) : Int) = (a : Int).tdiv (b : Int) := by rw [Int.ofNat_tdiv]
  unfold sgn
  cases p <;> cases q <;> simp [e, Int.neg_tdiv, Int.tdiv_neg]
theorem sgn_div (x y : Int) : sgn (zb x != zb y) (x.natAbs / y.natAbs) = x.tdiv y := by rw [sgn_div', sgn_zb, sgn_zb]
theorem exactly_c (f g : Fl) (hf : f ≠ .u) (hg : g ≠ .u) (x y : Int) (hy0 : y ≠ 0) (hx : (lim x.natAbs).length ≤ 1000000) (hy : (lim y.natAbs).length ≤ 1000000) : PC PP F_impl_BigInt_exactly [zV f x, zV g y] (zV .s (x.tdiv y)) [] := by
  refine tx W_impl_BigInt_exactly ke_impl_BigInt_exactly [] (by kernel_rfl) ?_
  simp -dsimp(disch:=first|exact om|fail)only[go_sem,↓reduceIte,Nat.reduceEqDiff,Nat.reduceAdd,Nat.reduceSub,Nat.reduceMul,Nat.reduceLT,Nat.reduceLeDiff,reduceCtorEq,a_eq,a_neq,a_cast0,a_pred,a_app1,a_zero,Int.reduceToNat]
  refine callP (over_c f g hf hg x.natAbs y.natAbs (by omega) (by omega) (by omega)) lL ?_
  simp -dsimp(disch:=first|exact om|fail)only[go_sem,↓reduceIte,Nat.reduceEqDiff,Nat.reduceAdd,Nat.reduceSub,Nat.reduceMul,Nat.reduceLT,Nat.reduceLeDiff,reduceCtorEq,a_eq,a_neq,a_cast0,a_pred,a_app1,a_zero,Int.reduceToNat]
  refine callP (signed_z (x.tdiv y) (zb x != zb y) (x.natAbs / y.natAbs) (sgn_div x y)) lL ?_
  simp -dsimp(disch:=first|exact om|fail)only[go_sem,↓reduceIte,Nat.reduceEqDiff,Nat.reduceAdd,Nat.reduceSub,Nat.reduceMul,Nat.reduceLT,Nat.reduceLeDiff,reduceCtorEq,a_eq,a_neq,a_cast0,a_pred,a_app1,a_zero,Int.reduceToNat]
def ixBs (β : Nat → Nat) (m k : Nat) : Int := if fstN (fun i => decide (β i = k)) m < m then ((fstN (fun i => decide (β i = k)) m : Nat) : Int) else -1
theorem Index_c (g : Fl) (hg : g ≠ .u) (m : Nat) (β : Nat → Nat) (hm : m ≤ 20) (hβ : ∀ i, i < m → β i ≤ 60) (k : Nat) (hk : k ≤ 60) : PC PP F_slices_Index_int_int [.sl g 1 m (iC (bL m β)), I k] (I (ixBs β m k)) [] := by
  obtain ⟨f1, f2, f3⟩ := fstN_spec (P := fun i => decide (β i = k)) (n := m)
  have hi : ixBs β m k = if fstN (fun i => decide (β i = k)) m < m then ((fstN (fun i => decide (β i = k)) m : Nat) : Int) else -1 := rfl
  generalize fstN (fun i => decide (β i = k)) m = n at *
  refine tx W_slices_Index_int_int ke_slices_Index_int_int [] (by kernel_rfl) ?_
  simp -dsimp(disch:=first|exact om|fail)only[go_sem,↓reduceIte,Nat.reduceEqDiff,Nat.reduceAdd,Nat.reduceSub,Nat.reduceMul,Nat.reduceLT,Nat.reduceLeDiff,reduceCtorEq,a_eq,a_neq,a_cast0,a_pred,a_app1,a_zero,Int.reduceToNat]
  refine loopI (fun i : Nat => i ≤ n) (fun i => ⟨[(0, .sl g 1 m (iC (bL m β))), (1, I k), (7, I m), (8, I i)], []⟩) (fun i => m - i) 0 (by omega) ?_ ?_
  · simp -dsimp(disch:=first|exact om|fail)only[go_sem,↓reduceIte,Nat.reduceEqDiff,Nat.reduceAdd,Nat.reduceSub,Nat.reduceMul,Nat.reduceLT,Nat.reduceLeDiff,reduceCtorEq,a_eq,a_neq,a_cast0,a_pred,a_app1,a_zero,Int.reduceToNat]
  intro i hin
  by_cases h : i < m
  · by_cases e : β i = k
    · have hn : i = n := by
        rcases Nat.lt_or_eq_of_le hin with q | q
        · have := f2 i q
          simp [e] at this
        · exact q
      have e1 : (k : Int) = ((β i : Nat) : Int) := by omega
      rw [hi, if_pos (by omega), ← hn]
      simp -dsimp(disch:=first|exact om|fail)only[go_sem,↓reduceIte,Nat.reduceEqDiff,Nat.reduceAdd,Nat.reduceSub,Nat.reduceMul,Nat.reduceLT,Nat.reduceLeDiff,reduceCtorEq,a_eq,a_neq,a_cast0,a_pred,a_app1,a_zero,Int.reduceToNat, e1]
    · have hn : i + 1 ≤ n := by
        rcases Nat.lt_or_eq_of_le hin with q | q
        · exact q
        · have := f3 (by omega)
          rw [← q] at this
          simp [e] at this
      have hb := hβ i h
      have e1 : ¬ (k : Int) = ((β i : Nat) : Int) := by omega
      simp -dsimp(disch:=first|exact om|fail)only[go_sem,↓reduceIte,Nat.reduceEqDiff,Nat.reduceAdd,Nat.reduceSub,Nat.reduceMul,Nat.reduceLT,Nat.reduceLeDiff,reduceCtorEq,a_eq,a_neq,a_cast0,a_pred,a_app1,a_zero,Int.reduceToNat, e1]
      exact ⟨i + 1, by omega, by omega, by simp -dsimp(disch:=first|exact om|fail)only[go_sem,↓reduceIte,Nat.reduceEqDiff,Nat.reduceAdd,Nat.reduceSub,Nat.reduceMul,Nat.reduceLT,Nat.reduceLeDiff,reduceCtorEq,a_eq,a_neq,a_cast0,a_pred,a_app1,a_zero,Int.reduceToNat]⟩
  · obtain rfl : m = i := by omega
    rw [hi, if_neg (by omega)]
    simp -dsimp(disch:=first|exact om|fail)only[go_sem,↓reduceIte,Nat.reduceEqDiff,Nat.reduceAdd,Nat.reduceSub,Nat.reduceMul,Nat.reduceLT,Nat.reduceLeDiff,reduceCtorEq,a_eq,a_neq,a_cast0,a_pred,a_app1,a_zero,Int.reduceToNat]
theorem Contains_c (g : Fl) (hg : g ≠ .u) (m : Nat) (β : Nat → Nat) (hm : m ≤ 20) (hβ : ∀ i, i < m → β i ≤ 60) (k : Nat) (hk : k ≤ 60) : PC PP F_slices_Contains_int_int [.sl g 1 m (iC (bL m β)), I k] (Bo (basB β m k)) [] := by
  obtain ⟨f1, f2, f3⟩ := fstN_spec (P := fun i => decide (β i = k)) (n := m)
  have q := Index_c g hg m β hm hβ k hk
  refine tx W_slices_Contains_int_int ke_slices_Contains_int_int [] (by kernel_rfl) ?_
  simp -dsimp(disch:=first|exact om|fail)only[go_sem,↓reduceIte,Nat.reduceEqDiff,Nat.reduceAdd,Nat.reduceSub,Nat.reduceMul,Nat.reduceLT,Nat.reduceLeDiff,reduceCtorEq,a_eq,a_neq,a_cast0,a_pred,a_app1,a_zero,Int.reduceToNat]
  refine callP q lL ?_
  unfold ixBs
  by_cases h : fstN (fun i => decide (β i = k)) m < m
  · rw [if_pos h, show basB β m k = true from basB_iff.2 ⟨_, h, of_decide_eq_true (f3 h)⟩]
    simp -dsimp(disch:=first|exact om|fail)only[go_sem,↓reduceIte,Nat.reduceEqDiff,Nat.reduceAdd,Nat.reduceSub,Nat.reduceMul,Nat.reduceLT,Nat.reduceLeDiff,reduceCtorEq,a_eq,a_neq,a_cast0,a_pred,a_app1,a_zero,Int.reduceToNat]
  · rw [if_neg h, basB_false (fun i hi e => by have := f2 i (by omega); simp [e] at this)]
    simp -dsimp(disch:=first|exact om|fail)only[go_sem,↓reduceIte,Nat.reduceEqDiff,Nat.reduceAdd,Nat.reduceSub,Nat.reduceMul,Nat.reduceLT,Nat.reduceLeDiff,reduceCtorEq,a_eq,a_neq,a_cast0,a_pred,a_app1,a_zero,Int.reduceToNat]
end Go.Proofs.Ytchlpclgkhggeaa

namespace Go.Proofs.Ytchlpclgkhggeaa
open Go Go.RowKit
set_option maxRecDepth 100000
set_option maxHeartbeats 4000000
set_option linter.unusedVariables false
set_option linter.unusedSimpArgs false
def z1 (z : Int) : List V := [Bo (zb z), sI .s (lim z.natAbs)]
def zC (c : Nat) (g : Nat → Int) : List V := (List.range c).flatMap fun j => z1 (g j)
theorem zC_succ {c : Nat} {g : Nat → Int} : zC (c + 1) g = zC c g ++ z1 (g c) := by
  unfold zC; rw [List.range_succ, List.flatMap_append]; simp
@[go_sem] theorem zC_length {c : Nat} {g : Nat → Int} : (zC c g).length = c * 2 := by
  induction c with
  | zero => rfl
  | succ c ih => rw [zC_succ, List.length_append, ih]; show c * 2 + 2 = _; omega
theorem zC_congr {c : Nat} {g h : Nat → Int} (e : ∀ j, j < c → g j = h j) : zC c g = zC c h := by
  induction c with
  | zero => rfl
  | succ c ih => rw [zC_succ, zC_succ, ih fun j hj => e j (by omega), e c (by omega)]
theorem zC_split {c : Nat} {g : Nat → Int} {j : Nat} (h : j < c) : ∃ r, zC c g = zC j g ++ z1 (g j) ++ r ∧ r = (zC c g).drop (j * 2 + 2) := by
  obtain ⟨d, rfl⟩ : ∃ d, c = j + 1 + d := ⟨c - (j + 1), by omega⟩
  have e : ∃ r, zC (j + 1 + d) g = zC (j + 1) g ++ r := by
    induction d with
    | zero => exact ⟨[], by simp⟩
    | succ d ih =>
      obtain ⟨r, hr⟩ := ih (by omega)
      exact ⟨r ++ z1 (g (j + 1 + d)), by rw [← Nat.add_assoc, zC_succ, hr, List.append_assoc]⟩
  obtain ⟨r, hr⟩ := e
  refine ⟨r, by rw [hr, zC_succ], ?_⟩
  rw [hr, List.drop_append_of_le_length (by rw [zC_length]; omega), List.drop_of_length_le (by rw [zC_length]; omega), List.nil_append]
theorem zC_take {c j : Nat} {g : Nat → Int} (h : OM (j < c)) : ((zC c g).drop (j * 2)).take 2 = [Bo (zb (g j)), sI .s (lim (g j).natAbs)] := by
  have h : j < c := h
  obtain ⟨r, e, _⟩ := zC_split (g := g) h
  rw [e, List.append_assoc, List.drop_append_of_le_length (by rw [zC_length]; exact Nat.le_refl _), List.drop_of_length_le (by rw [zC_length]; exact Nat.le_refl _)]
  rfl
attribute [go_sem] zC_take
def updZ (g : Nat → Int) (i : Nat) (x : Int) : Nat → Int := fun a => if a = i then x else g a
theorem zC_set {c j : Nat} {g : Nat → Int} {x : Int} (h : j < c) : (zC c g).take (j * 2) ++ [Bo (zb x), sI .s (lim x.natAbs)] ++ (zC c g).drop (j * 2 + 2) = zC c (updZ g j x) := by
  obtain ⟨r, e, hr⟩ := zC_split (g := g) h
  obtain ⟨r', e', hr'⟩ := zC_split (g := updZ g j x) h
  have e1 : zC j (updZ g j x) = zC j g := zC_congr fun a ha => if_neg (by omega)
  have e2 : updZ g j x j = x := if_pos rfl
  have e3 : (zC c g).drop (j * 2 + 2) = (zC c (updZ g j x)).drop (j * 2 + 2) := by
    have key : ∀ d, (zC (j + 1 + d) g).drop (j * 2 + 2) = (zC (j + 1 + d) (updZ g j x)).drop (j * 2 + 2) := by
      intro d
      induction d with
      | zero => rw [List.drop_of_length_le (by rw [zC_length]; omega), List.drop_of_length_le (by rw [zC_length]; omega)]
      | succ d ih =>
        rw [← Nat.add_assoc, zC_succ, zC_succ, List.drop_append_of_le_length (by rw [zC_length]; omega), List.drop_append_of_le_length (by rw [zC_length]; omega), ih, show updZ g j x (j + 1 + d) = g (j + 1 + d) from if_neg (by omega)]
    obtain ⟨d, rfl⟩ : ∃ d, c = j + 1 + d := ⟨c - (j + 1), by omega⟩
    exact key d
  have e4 : (zC c g).take (j * 2) = zC j g := by
    rw [e, List.append_assoc, List.take_append_of_le_length (by rw [zC_length]; exact Nat.le_refl _), List.take_of_length_le (by rw [zC_length]; exact Nat.le_refl _)]
  rw [e', e1, e2, e4, e3, hr']; rfl
theorem zC_all {c : Nat} {g : Nat → Int} {p : V → Prop} (h1 : ∀ b, p (Bo b)) (h2 : ∀ l, p (sI .s l)) : ∀ v ∈ zC c g, p v := by
  induction c with
  | zero => intro v hv; cases hv
  | succ c ih =>
    intro v hv
    rw [zC_succ] at hv
    rcases List.mem_append.1 hv with hv | hv
    · exact ih v hv
    · simp only [z1, List.mem_cons, List.not_mem_nil, or_false] at hv
      rcases hv with rfl | rfl
      · exact h1 _
      · exact h2 _
theorem nb_zC {c : Nat} {g : Nat → Int} : ∀ v ∈ zC c g, v.nb := zC_all (fun _ => trivial) (fun _ => trivial)
@[go_sem] theorem rnL_zC {H : List Ob} {js : List (Option Nat)} {bk : Bool} {c : Nat} {g : Nat → Int} : RnL H js bk (zC c g) (zC c g) [] = True := eq_true (RnL.same (zC_all (fun _ => trivial) (fun _ => trivial)) (fun _ => nb_zC))
theorem leL_zC {H : List Ob} {f : Fl} {c : Nat} {g : Nat → Int} : LeL H f (zC c g) (zC c g) := by
  have : ∀ l : List V, (∀ v ∈ l, Le H f v v) → LeL H f l l := by
    intro l
    induction l with
    | nil => intro _; exact .nil
    | cons a l ih => intro h; exact .cons _ _ _ _ (h a (by simp)) (ih fun v hv => h v (by simp [hv]))
  exact this _ (zC_all (fun _ => .lit _) (fun _ => .sl _ _ _ _ _ _ (show FlLe f .s .s from Or.inl rfl) LeL.lits))
abbrev zrow (f : Fl) (N : Nat) (g : Nat → Int) : V := .sl f 2 (N + 1) (zC (N + 1) g)
def rwZ (f : Fl) (m N : Nat) (W : Nat → Nat → Int) : List V := (List.range m).map fun i => zrow f N (W i)
theorem rwZ_gL {f : Fl} {m N : Nat} {W : Nat → Nat → Int} : rwZ f m N W = gL m (fun i => zrow f N (W i)) := rfl
@[go_sem] theorem rwZ_length {f : Fl} {m N : Nat} {W : Nat → Nat → Int} : (rwZ f m N W).length = m := by simp [rwZ]
@[go_sem] theorem rwZ_get {f : Fl} {m N i : Nat} {W : Nat → Nat → Int} (h : OM (i < m)) : ((rwZ f m N W).drop i)[0]? = some (zrow f N (W i)) := gL_at h
theorem rwZ_mem {f : Fl} {m N : Nat} {W : Nat → Nat → Int} {v : V} (h : v ∈ rwZ f m N W) : ∃ g, v = zrow f N g := by
  obtain ⟨i, _, rfl⟩ := List.mem_map.1 h
  exact ⟨_, rfl⟩
def frC (N : Nat) (fr : Nat → Bool) : List V := (List.range N).map fun k => Bo (fr k)
@[go_sem] theorem frC_length {N : Nat} {fr : Nat → Bool} : (frC N fr).length = N := by simp [frC]
@[go_sem] theorem frC_get {N k : Nat} {fr : Nat → Bool} (h : OM (k < N)) : ((frC N fr).drop k)[0]? = some (Bo (fr k)) := gL_at (h := fun k => Bo (fr k)) h
theorem frC_mem {N : Nat} {fr : Nat → Bool} {v : V} (h : v ∈ frC N fr) : ∃ b, v = Bo b := by
  obtain ⟨i, _, rfl⟩ := List.mem_map.1 h
  exact ⟨_, rfl⟩
def tiC (f : Fl) (m N : Nat) (s : IT) : List V := [.sl f 1 m (rwZ f m N s.W), Bo (zb s.d), sI .s (lim s.d.natAbs), .sl f 1 m (iC (bL m s.β)), I N, .sl f 1 N (frC N s.fr)]
@[go_sem] theorem tiC_eq {f : Fl} {m N : Nat} {s : IT} : tiC f m N s = [.sl f 1 m (rwZ f m N s.W), Bo (zb s.d), sI .s (lim s.d.natAbs), .sl f 1 m (iC (bL m s.β)), I N, .sl f 1 N (frC N s.fr)] := (rfl)
def lvB : Option Nat → Int
  | none => -1
  | some b => b
theorem lvI_lt {s : IT} {N k : Nat} : ∀ {i b : Nat}, lvI s N k i = some b → b < i
  | 0, _, h => by cases h
  | i + 1, b, h => by
    rw [lvI] at h
    by_cases h1 : s.W i k ≤ 0
    · rw [if_pos h1] at h
      have := lvI_lt h
      omega
    · rw [if_neg h1] at h
      cases e : lvI s N k i with
      | none =>
        rw [e] at h
        obtain rfl := Option.some.inj h
        omega
      | some b2 =>
        have := lvI_lt e
        rw [e] at h
        simp only at h
        split at h
        all_goals
          obtain rfl := Option.some.inj h
          omega
structure ISz (m N : Nat) (s : IT) : Prop where
  dB : s.d.natAbs ≤ 2 ^ 195
  WB : ∀ i j, i < m → j ≤ N → (s.W i j).natAbs ≤ 2 ^ 195
theorem z_len {z : Int} {k : Nat} (h : z.natAbs ≤ 2 ^ k) (hk : k ≤ 696) : (lim z.natAbs).length ≤ 24 := by
  have := (Sz.int h).fits hk
  rw [Rat.num_intCast] at this
  exact this.1
theorem ISz.d {m N : Nat} {s : IT} (h : ISz m N s) : (lim s.d.natAbs).length ≤ 24 := z_len h.dB (by omega)
theorem ISz.W {m N : Nat} {s : IT} (h : ISz m N s) (i j : Nat) (hi : i < m) (hj : j ≤ N) : (lim (s.W i j).natAbs).length ≤ 24 := z_len (h.WB i j hi hj) (by omega)
theorem leaving_c (m N : Nat) (hm : m ≤ 20) (hN : N ≤ 60) (s : IT) (hz : ISz m N s) (hβ : ∀ i, i < m → s.β i ≤ 60) (k : Nat) (hk : k < N) : PC PP F_impl_tableau_leaving [.ptr .b (tiC .b m N s), I k] (I (lvB (lvI s N k m))) [] := by
  refine tx W_impl_tableau_leaving ke_impl_tableau_leaving [] (by kernel_rfl) ?_
  simp -dsimp(disch:=first|exact om|fail)only[go_sem,↓reduceIte,Nat.reduceEqDiff,Nat.reduceAdd,Nat.reduceSub,Nat.reduceMul,Nat.reduceLT,Nat.reduceLeDiff,reduceCtorEq,a_eq,a_neq,a_cast0,a_pred,a_app1,a_zero,Int.reduceToNat]
  refine loopI (fun i : Nat => i ≤ m) (fun i => ⟨[(0, .ptr .b (tiC .b m N s)), (1, I k), (5, I (lvB (lvI s N k i))), (12, .sl .b 1 m (rwZ .b m N s.W)), (13, I m), (14, I i)], []⟩) (fun i => m - i) 0 (by omega) ?_ ?_
  · simp -dsimp(disch:=first|exact om|fail)only[go_sem,↓reduceIte,Nat.reduceEqDiff,Nat.reduceAdd,Nat.reduceSub,Nat.reduceMul,Nat.reduceLT,Nat.reduceLeDiff,reduceCtorEq,a_eq,a_neq,a_cast0,a_pred,a_app1,a_zero,Int.reduceToNat]
    rfl
  intro i hi
  by_cases him : i < m
  · have hsz := hz.W i
    simp -dsimp(disch:=first|exact om|fail)only[go_sem,↓reduceIte,Nat.reduceEqDiff,Nat.reduceAdd,Nat.reduceSub,Nat.reduceMul,Nat.reduceLT,Nat.reduceLeDiff,reduceCtorEq,a_eq,a_neq,a_cast0,a_pred,a_app1,a_zero,Int.reduceToNat]
    refine callP (impl_BigInt_sign_c .s fls (s.W i k) (by have := hsz k him (by omega); omega)) lL ?_
    have ez : lvI s N k (i + 1) = if s.W i k ≤ 0 then lvI s N k i else match lvI s N k i with
      | none => some i
      | some b => if cmpZ (s.W i N * s.W b k) (s.W b N * s.W i k) < 0 ∨ (cmpZ (s.W i N * s.W b k) (s.W b N * s.W i k) = 0 ∧ s.β i < s.β b) then some i else some b := rfl
    by_cases hp : s.W i k ≤ 0
    · have hp' : sgZ (s.W i k) ≤ 0 := sgZ_nonpos.2 hp
      rw [if_pos hp] at ez
      simp -dsimp(disch:=first|exact om|fail)only[go_sem,↓reduceIte,Nat.reduceEqDiff,Nat.reduceAdd,Nat.reduceSub,Nat.reduceMul,Nat.reduceLT,Nat.reduceLeDiff,reduceCtorEq,a_eq,a_neq,a_cast0,a_pred,a_app1,a_zero,Int.reduceToNat, hp']
      exact ⟨i + 1, by omega, by omega, by rw [ez]; simp -dsimp(disch:=first|exact om|fail)only[go_sem,↓reduceIte,Nat.reduceEqDiff,Nat.reduceAdd,Nat.reduceSub,Nat.reduceMul,Nat.reduceLT,Nat.reduceLeDiff,reduceCtorEq,a_eq,a_neq,a_cast0,a_pred,a_app1,a_zero,Int.reduceToNat]⟩
    · have hp' : ¬ sgZ (s.W i k) ≤ 0 := fun q => hp (sgZ_nonpos.1 q)
      rw [if_neg hp] at ez
      cases hl : lvI s N k i with
      | none =>
        rw [hl] at ez
        simp only at ez
        rw [show lvB none = -1 from rfl]
        simp -dsimp(disch:=first|exact om|fail)only[go_sem,↓reduceIte,Nat.reduceEqDiff,Nat.reduceAdd,Nat.reduceSub,Nat.reduceMul,Nat.reduceLT,Nat.reduceLeDiff,reduceCtorEq,a_eq,a_neq,a_cast0,a_pred,a_app1,a_zero,Int.reduceToNat, hp']
        exact ⟨i + 1, by omega, by omega, by rw [ez]; simp -dsimp(disch:=first|exact om|fail)only[go_sem,↓reduceIte,Nat.reduceEqDiff,Nat.reduceAdd,Nat.reduceSub,Nat.reduceMul,Nat.reduceLT,Nat.reduceLeDiff,reduceCtorEq,a_eq,a_neq,a_cast0,a_pred,a_app1,a_zero,Int.reduceToNat]; rfl⟩
      | some b =>
        have hb := lvI_lt hl
        have hszb := hz.W b
        rw [hl] at ez
        simp only at ez
        rw [show lvB (some b) = (b : Int) from rfl]
        have hbb : ¬ (b : Int) < 0 := by omega
        have l1 := hsz k him (by omega)
        have l2 := hsz N him (by omega)
        have l3 := hszb k (by omega) (by omega)
        have l4 := hszb N (by omega) (by omega)
        have m1 : (lim (s.W i N * s.W b k).natAbs).length ≤ 48 := by rw [Int.natAbs_mul]; have := lim_mul_len (a := (s.W i N).natAbs) (d := (s.W b k).natAbs); omega
        have m2 : (lim (s.W b N * s.W i k).natAbs).length ≤ 48 := by rw [Int.natAbs_mul]; have := lim_mul_len (a := (s.W b N).natAbs) (d := (s.W i k).natAbs); omega
        have hβi := hβ i him
        have hβb := hβ b (by omega)
        simp -dsimp(disch:=first|exact om|fail)only[go_sem,↓reduceIte,Nat.reduceEqDiff,Nat.reduceAdd,Nat.reduceSub,Nat.reduceMul,Nat.reduceLT,Nat.reduceLeDiff,reduceCtorEq,a_eq,a_neq,a_cast0,a_pred,a_app1,a_zero,Int.reduceToNat, hp', hbb]
        refine callP (impl_BigInt_times_c .s .s fls fls (s.W i N) (s.W b k) (by omega) (by omega)) lL ?_
        simp -dsimp(disch:=first|exact om|fail)only[go_sem,↓reduceIte,Nat.reduceEqDiff,Nat.reduceAdd,Nat.reduceSub,Nat.reduceMul,Nat.reduceLT,Nat.reduceLeDiff,reduceCtorEq,a_eq,a_neq,a_cast0,a_pred,a_app1,a_zero,Int.reduceToNat]
        refine callP (impl_BigInt_times_c .s .s fls fls (s.W b N) (s.W i k) (by omega) (by omega)) lL ?_
        simp -dsimp(disch:=first|exact om|fail)only[go_sem,↓reduceIte,Nat.reduceEqDiff,Nat.reduceAdd,Nat.reduceSub,Nat.reduceMul,Nat.reduceLT,Nat.reduceLeDiff,reduceCtorEq,a_eq,a_neq,a_cast0,a_pred,a_app1,a_zero,Int.reduceToNat]
        refine callP (impl_BigInt_compare_c .s .s fls fls (s.W i N * s.W b k) (s.W b N * s.W i k) (by omega) (by omega)) lL ?_
        generalize cmpZ (s.W i N * s.W b k) (s.W b N * s.W i k) = x at *
        by_cases h1 : x < 0
        · rw [if_pos (Or.inl h1)] at ez
          simp -dsimp(disch:=first|exact om|fail)only[go_sem,↓reduceIte,Nat.reduceEqDiff,Nat.reduceAdd,Nat.reduceSub,Nat.reduceMul,Nat.reduceLT,Nat.reduceLeDiff,reduceCtorEq,a_eq,a_neq,a_cast0,a_pred,a_app1,a_zero,Int.reduceToNat, h1]
          exact ⟨i + 1, by omega, by omega, by rw [ez]; simp -dsimp(disch:=first|exact om|fail)only[go_sem,↓reduceIte,Nat.reduceEqDiff,Nat.reduceAdd,Nat.reduceSub,Nat.reduceMul,Nat.reduceLT,Nat.reduceLeDiff,reduceCtorEq,a_eq,a_neq,a_cast0,a_pred,a_app1,a_zero,Int.reduceToNat]; rfl⟩
        · by_cases h2 : x = 0
          · by_cases h3 : s.β i < s.β b
            · have h4 : (s.β i : Int) < (s.β b : Int) := by omega
              rw [if_pos (Or.inr ⟨h2, h3⟩)] at ez
              simp -dsimp(disch:=first|exact om|fail)only[go_sem,↓reduceIte,Nat.reduceEqDiff,Nat.reduceAdd,Nat.reduceSub,Nat.reduceMul,Nat.reduceLT,Nat.reduceLeDiff,reduceCtorEq,a_eq,a_neq,a_cast0,a_pred,a_app1,a_zero,Int.reduceToNat, h2, h4]
              exact ⟨i + 1, by omega, by omega, by rw [ez]; simp -dsimp(disch:=first|exact om|fail)only[go_sem,↓reduceIte,Nat.reduceEqDiff,Nat.reduceAdd,Nat.reduceSub,Nat.reduceMul,Nat.reduceLT,Nat.reduceLeDiff,reduceCtorEq,a_eq,a_neq,a_cast0,a_pred,a_app1,a_zero,Int.reduceToNat]; rfl⟩
            · have h4 : ¬ (s.β i : Int) < (s.β b : Int) := by omega
              rw [if_neg (fun q => q.elim h1 (fun q => h3 q.2))] at ez
              simp -dsimp(disch:=first|exact om|fail)only[go_sem,↓reduceIte,Nat.reduceEqDiff,Nat.reduceAdd,Nat.reduceSub,Nat.reduceMul,Nat.reduceLT,Nat.reduceLeDiff,reduceCtorEq,a_eq,a_neq,a_cast0,a_pred,a_app1,a_zero,Int.reduceToNat, h2, h4]
              exact ⟨i + 1, by omega, by omega, by rw [ez]; simp -dsimp(disch:=first|exact om|fail)only[go_sem,↓reduceIte,Nat.reduceEqDiff,Nat.reduceAdd,Nat.reduceSub,Nat.reduceMul,Nat.reduceLT,Nat.reduceLeDiff,reduceCtorEq,a_eq,a_neq,a_cast0,a_pred,a_app1,a_zero,Int.reduceToNat]; rfl⟩
          · rw [if_neg (fun q => q.elim h1 (fun q => h2 q.1))] at ez
            simp -dsimp(disch:=first|exact om|fail)only[go_sem,↓reduceIte,Nat.reduceEqDiff,Nat.reduceAdd,Nat.reduceSub,Nat.reduceMul,Nat.reduceLT,Nat.reduceLeDiff,reduceCtorEq,a_eq,a_neq,a_cast0,a_pred,a_app1,a_zero,Int.reduceToNat, h1, h2]
            exact ⟨i + 1, by omega, by omega, by rw [ez]; simp -dsimp(disch:=first|exact om|fail)only[go_sem,↓reduceIte,Nat.reduceEqDiff,Nat.reduceAdd,Nat.reduceSub,Nat.reduceMul,Nat.reduceLT,Nat.reduceLeDiff,reduceCtorEq,a_eq,a_neq,a_cast0,a_pred,a_app1,a_zero,Int.reduceToNat]; rfl⟩
  · obtain rfl : m = i := by omega
    simp -dsimp(disch:=first|exact om|fail)only[go_sem,↓reduceIte,Nat.reduceEqDiff,Nat.reduceAdd,Nat.reduceSub,Nat.reduceMul,Nat.reduceLT,Nat.reduceLeDiff,reduceCtorEq,a_eq,a_neq,a_cast0,a_pred,a_app1,a_zero,Int.reduceToNat]
def oL (N : Nat) (o : Nat → Int) : List Int := (List.range N).map o
@[go_sem] theorem oL_length {N : Nat} {o : Nat → Int} : (oL N o).length = N := by simp [oL]
theorem oL_get {N k : Nat} {o : Nat → Int} (h : k < N) : (oL N o).getD k 0 = o k := by
  rw [List.getD_eq_getElem?_getD, oL, List.getElem?_map, List.getElem?_range h]; rfl
@[go_sem] theorem oL_at {N k : Nat} {o : Nat → Int} (h : OM (k < N)) : ((iC (oL N o)).drop k)[0]? = some (I (o k)) := by
  rw [iC_get (by rw [oL_length]; exact h), oL_get h]
theorem smZ_len {B : Nat} {x : Int} {f : Nat → Int} (hx : x.natAbs ≤ B) : ∀ i, (∀ a, a < i → (f a).natAbs ≤ B) → (x - smZ i f).natAbs ≤ (i + 1) * B
  | 0, _ => by
    show (x - 0).natAbs ≤ _
    rw [Int.sub_zero]; omega
  | i + 1, h => by
    have ih := smZ_len hx i fun a ha => h a (by omega)
    have h3 := h i (by omega)
    have e : x - smZ (i + 1) f = (x - smZ i f) - f i := by
      show _ - (smZ i _ + _) = _; omega
    rw [e, Nat.add_mul (i + 1) 1, Nat.one_mul]
    generalize x - smZ i f = z at *
    generalize f i = y at *
    generalize (i + 1) * B = C at *
    omega
theorem mulZ_len {x y : Int} (hx : x.natAbs ≤ 2 ^ 195) (hy : -100 ≤ y ∧ y ≤ 100) : (x * y).natAbs ≤ 100 * 2 ^ 195 := by
  rw [Int.natAbs_mul, Nat.mul_comm]
  exact Nat.mul_le_mul (by omega) hx
theorem gn_len {s : IT} {m N : Nat} {o : Nat → Int} {k : Nat} (hz : ISz m N s) (hm : m ≤ 20) (ho : ∀ j, -100 ≤ o j ∧ o j ≤ 100) (hk : k ≤ N) (i : Nat) (hi : i ≤ m) : (lim (s.d * o k - smZ i (fun a => s.W a k * o (s.β a))).natAbs).length ≤ 24 := by
  have h := smZ_len (mulZ_len hz.dB (ho k)) i (fun a ha => mulZ_len (hz.WB a k (by omega) hk) (ho (s.β a)))
  refine z_len (k := 207) (Nat.le_trans h ?_) (by omega)
  refine Nat.le_trans (Nat.mul_le_mul_right _ (show i + 1 ≤ 21 by omega)) ?_
  rw [← Nat.mul_assoc, show (207 : Nat) = 12 + 195 from rfl, Nat.pow_add]
  exact Nat.mul_le_mul_right _ (by decide)
abbrev zO (z : Int) : Ob := ⟨.own, T_impl_BigInt, [Bo (zb z), sI .s (lim z.natAbs)]⟩
theorem gain_c (m N : Nat) (hm : m ≤ 20) (hN : N ≤ 60) (s : IT) (hz : ISz m N s) (hβ : ∀ i, i < m → s.β i < N) (o : Nat → Int) (ho : ∀ j, -100 ≤ o j ∧ o j ≤ 100) (k : Nat) (hk : k < N) : PC PP F_impl_tableau_gain [.ptr .b (tiC .b m N s), .sl .b 1 N (iC (oL N o)), I k] (I (sgZ (gnI s m o k))) [] := by
  refine tx W_impl_tableau_gain ke_impl_tableau_gain [] (by kernel_rfl) ?_
  have hd := hz.d
  have hlen := fun i hi => gn_len hz hm ho (k := k) (by omega) i hi
  obtain ⟨G, hG⟩ : ∃ G : Nat → Int, G = fun i => s.d * o k - smZ i (fun a => s.W a k * o (s.β a)) := ⟨_, rfl⟩
  have hG0 : s.d * o k = G 0 := by rw [hG]; show _ = s.d * o k - 0; omega
  have hGs : ∀ i, G (i + 1) = G i - s.W i k * o (s.β i) := fun i => by
    rw [hG]
    show s.d * o k - (smZ i (fun a => s.W a k * o (s.β a)) + s.W i k * o (s.β i)) = s.d * o k - smZ i (fun a => s.W a k * o (s.β a)) - s.W i k * o (s.β i)
    omega
  have hGm : gnI s m o k = G m := by rw [hG]; rfl
  have hGl : ∀ i, i ≤ m → (lim (G i).natAbs).length ≤ 24 := fun i hi => by rw [hG]; exact hlen i hi
  have hoL : ∀ j, (lim (o j).natAbs).length ≤ 24 := fun j => z_len (k := 7) (by have := ho j; show _ ≤ 128; omega) (by omega)
  rw [hGm]
  clear hG hlen hGm
  have hok := ho k
  simp -dsimp(disch:=first|exact om|fail)only[go_sem,↓reduceIte,Nat.reduceEqDiff,Nat.reduceAdd,Nat.reduceSub,Nat.reduceMul,Nat.reduceLT,Nat.reduceLeDiff,reduceCtorEq,a_eq,a_neq,a_cast0,a_pred,a_app1,a_zero,Int.reduceToNat]
  refine callP (impl_integer_c (o k) (by omega)) lL ?_
  simp -dsimp(disch:=first|exact om|fail)only[go_sem,↓reduceIte,Nat.reduceEqDiff,Nat.reduceAdd,Nat.reduceSub,Nat.reduceMul,Nat.reduceLT,Nat.reduceLeDiff,reduceCtorEq,a_eq,a_neq,a_cast0,a_pred,a_app1,a_zero,Int.reduceToNat]
  refine callP (impl_BigInt_times_c .s .s fls fls s.d (o k) (by omega) (by have := hoL k; omega)) lL ?_
  rw [hG0]
  simp -dsimp(disch:=first|exact om|fail)only[go_sem,↓reduceIte,Nat.reduceEqDiff,Nat.reduceAdd,Nat.reduceSub,Nat.reduceMul,Nat.reduceLT,Nat.reduceLeDiff,reduceCtorEq,a_eq,a_neq,a_cast0,a_pred,a_app1,a_zero,Int.reduceToNat]
  refine loopJ (fun i : Nat => i ≤ m) (fun i => ⟨[(0, .ptr .b (tiC .b m N s)), (1, .sl .b 1 N (iC (oL N o))), (2, I k), (7, .ref 0 0), (23, .sl .b 1 m (iC (bL m s.β))), (24, I m), (25, I i)], [zO (G i)]⟩) (fun i => m - i) 0 (by omega) ?_ ?_
  · exact StI.ren [some 0] [[]] lE (by decide) lW lW
  intro i hi
  by_cases him : i < m
  · have hb := hβ i him
    have hob := ho (s.β i)
    have hl1 := hz.W i k him (by omega)
    have hl2 := hGl i hi
    have hl3 := hoL (s.β i)
    have hGi := hGs i
    by_cases h1 : o (s.β i) = 0
    · have e : G (i + 1) = G i := by rw [hGi, h1]; omega
      simp -dsimp(disch:=first|exact om|fail)only[go_sem,↓reduceIte,Nat.reduceEqDiff,Nat.reduceAdd,Nat.reduceSub,Nat.reduceMul,Nat.reduceLT,Nat.reduceLeDiff,reduceCtorEq,a_eq,a_neq,a_cast0,a_pred,a_app1,a_zero,Int.reduceToNat, h1]
      refine ⟨i + 1, by omega, by omega, ?_⟩
      rw [e]
      exact StI.ren [some 0] [[]] lE (by decide) lW lW
    · simp -dsimp(disch:=first|exact om|fail)only[go_sem,↓reduceIte,Nat.reduceEqDiff,Nat.reduceAdd,Nat.reduceSub,Nat.reduceMul,Nat.reduceLT,Nat.reduceLeDiff,reduceCtorEq,a_eq,a_neq,a_cast0,a_pred,a_app1,a_zero,Int.reduceToNat, h1]
      refine callP (impl_BigInt_sign_c .s fls (s.W i k) (by omega)) lL ?_
      by_cases h2 : s.W i k = 0
      · have e : G (i + 1) = G i := by rw [hGi, h2]; omega
        have h2' : sgZ (s.W i k) = 0 := sgZ_zero.2 h2
        simp -dsimp(disch:=first|exact om|fail)only[go_sem,↓reduceIte,Nat.reduceEqDiff,Nat.reduceAdd,Nat.reduceSub,Nat.reduceMul,Nat.reduceLT,Nat.reduceLeDiff,reduceCtorEq,a_eq,a_neq,a_cast0,a_pred,a_app1,a_zero,Int.reduceToNat, h2']
        refine ⟨i + 1, by omega, by omega, ?_⟩
        rw [e]
        exact StI.ren [some 0] [[]] lE (by decide) lW lW
      · have h2' : ¬ sgZ (s.W i k) = 0 := fun q => h2 (sgZ_zero.1 q)
        have hml : (lim (s.W i k * o (s.β i)).natAbs).length ≤ 48 := by rw [Int.natAbs_mul]; have := lim_mul_len (a := (s.W i k).natAbs) (d := (o (s.β i)).natAbs); omega
        simp -dsimp(disch:=first|exact om|fail)only[go_sem,↓reduceIte,Nat.reduceEqDiff,Nat.reduceAdd,Nat.reduceSub,Nat.reduceMul,Nat.reduceLT,Nat.reduceLeDiff,reduceCtorEq,a_eq,a_neq,a_cast0,a_pred,a_app1,a_zero,Int.reduceToNat, h2']
        refine callP (impl_integer_c (o (s.β i)) (by omega)) lL ?_
        simp -dsimp(disch:=first|exact om|fail)only[go_sem,↓reduceIte,Nat.reduceEqDiff,Nat.reduceAdd,Nat.reduceSub,Nat.reduceMul,Nat.reduceLT,Nat.reduceLeDiff,reduceCtorEq,a_eq,a_neq,a_cast0,a_pred,a_app1,a_zero,Int.reduceToNat]
        refine callP (impl_BigInt_times_c .s .s fls fls (s.W i k) (o (s.β i)) (by omega) (by omega)) lL ?_
        simp -dsimp(disch:=first|exact om|fail)only[go_sem,↓reduceIte,Nat.reduceEqDiff,Nat.reduceAdd,Nat.reduceSub,Nat.reduceMul,Nat.reduceLT,Nat.reduceLeDiff,reduceCtorEq,a_eq,a_neq,a_cast0,a_pred,a_app1,a_zero,Int.reduceToNat]
        refine callP (impl_BigInt_minus_c .s .s fls fls (G i) (s.W i k * o (s.β i)) (by omega) (by omega)) lL ?_
        rw [← hGi]
        simp -dsimp(disch:=first|exact om|fail)only[go_sem,↓reduceIte,Nat.reduceEqDiff,Nat.reduceAdd,Nat.reduceSub,Nat.reduceMul,Nat.reduceLT,Nat.reduceLeDiff,reduceCtorEq,a_eq,a_neq,a_cast0,a_pred,a_app1,a_zero,Int.reduceToNat]
        exact ⟨i + 1, by omega, by omega, StI.ren [some 0] [[]] lE (by decide) lW lW⟩
  · obtain rfl : m = i := by omega
    have hl2 := hGl m (Nat.le_refl _)
    simp -dsimp(disch:=first|exact om|fail)only[go_sem,↓reduceIte,Nat.reduceEqDiff,Nat.reduceAdd,Nat.reduceSub,Nat.reduceMul,Nat.reduceLT,Nat.reduceLeDiff,reduceCtorEq,a_eq,a_neq,a_cast0,a_pred,a_app1,a_zero,Int.reduceToNat]
    refine callP (impl_BigInt_sign_c .s fls (G m) (by omega)) lL ?_
    simp -dsimp(disch:=first|exact om|fail)only[go_sem,↓reduceIte,Nat.reduceEqDiff,Nat.reduceAdd,Nat.reduceSub,Nat.reduceMul,Nat.reduceLT,Nat.reduceLeDiff,reduceCtorEq,a_eq,a_neq,a_cast0,a_pred,a_app1,a_zero,Int.reduceToNat]
end Go.Proofs.Ytchlpclgkhggeaa
