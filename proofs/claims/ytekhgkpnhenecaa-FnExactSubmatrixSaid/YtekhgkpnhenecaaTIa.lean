/- part of the proof -/
import Derived.Test.YtekhgkpnhenecaaTHc
import Derived.Test.YtekhgkpnhenecaaTGa
namespace Go.Proofs.Ytekhgkpnhenecaa
open Go Go.RowKit
set_option maxRecDepth 100000
set_option linter.unusedVariables false
set_option linter.unusedSimpArgs false
def sgn (b : Bool) (n : Nat) : Int := if b = true then -(n : Int) else n
def zb (z : Int) : Bool := decide (z < 0)
theorem sgn_natAbs (b : Bool) (n : Nat) : (sgn b n).natAbs = n := by unfold sgn; split <;> simp
theorem zb_sgn (b : Bool) (n : Nat) : zb (sgn b n) = (b && decide (0 < n)) := by
  unfold zb sgn
  cases b
  · have : ¬ ((n : Int) < 0) := by omega
    simp [this]
  · by_cases h : 0 < n
    · simp [h]
    · have : n = 0 := by omega
      subst this; simp
theorem sgn_zb (z : Int) : sgn (zb z) z.natAbs = z := by
  unfold zb sgn
  by_cases h : z < 0
  · simp only [h, decide_true, if_true]; omega
  · simp only [h, decide_false, Bool.false_eq_true, if_false]; omega
def okq (x : Option Rat) : Prop := ∀ r, x = some r → (lim r.num.natAbs).length ≤ 24 ∧ (lim r.den).length ≤ 24
structure FQ where
  x : Option Rat
  ok : okq x
def FQ.bad : FQ := ⟨none, by intro r h; cases h⟩
def FQ.fit (r : Rat) : FQ := if h : (lim r.num.natAbs).length ≤ 24 ∧ (lim r.den).length ≤ 24 then ⟨some r, by intro r' e; cases e; exact h⟩ else FQ.bad
def FQ.num (x : FQ) : Int := match x.1 with
  | some r => r.num
  | none => 0
def FQ.den (x : FQ) : Nat := match x.1 with
  | some r => r.den
  | none => 0
def lift2 (f : Rat → Rat → Rat) (x y : FQ) : FQ := match x.1, y.1 with
  | some a, some b => FQ.fit (f a b)
  | _, _ => FQ.bad
def FQ.add (x y : FQ) : FQ := lift2 (· + ·) x y
def FQ.sub (x y : FQ) : FQ := lift2 (· - ·) x y
def FQ.mul (x y : FQ) : FQ := lift2 (· * ·) x y
def FQ.neg (x : FQ) : FQ := ⟨x.1.map (- ·), by
  intro r h
  obtain ⟨x, hx⟩ := x
  cases x with
  | none => cases h
  | some a =>
    simp only [Option.map_some, Option.some.injEq] at h
    subst h
    have := hx a rfl
    exact ⟨by rw [show (-a).num = -a.num from rfl, Int.natAbs_neg]; exact this.1, this.2⟩⟩
theorem FQ.ext {x y : FQ} (h : x.1 = y.1) : x = y := by
  obtain ⟨x, _⟩ := x
  obtain ⟨y, _⟩ := y
  simp only at h; subst h; rfl
theorem FQ.num_le (x : FQ) : (lim x.num.natAbs).length ≤ 24 := by
  obtain ⟨x, hx⟩ := x
  cases x with
  | none => show (lim 0).length ≤ 24; rw [lim_zero]; decide
  | some r => exact (hx r rfl).1
theorem FQ.den_le (x : FQ) : (lim x.den).length ≤ 24 := by
  obtain ⟨x, hx⟩ := x
  cases x with
  | none => show (lim 0).length ≤ 24; rw [lim_zero]; decide
  | some r => exact (hx r rfl).2
def qd (x : FQ) : RD := ⟨zb x.num, lim x.num.natAbs, lim x.den⟩
theorem qd_bad : qd FQ.bad = RD.zero := by
  show (⟨zb 0, lim 0, lim 0⟩ : RD) = ⟨false, [], []⟩
  rw [lim_zero]; rfl
theorem qd_inj {x y : FQ} (h : qd x = qd y) : x = y := by
  unfold qd at h
  simp only [RD.mk.injEq] at h
  obtain ⟨h1, h2, h3⟩ := h
  have h2 := lim_inj h2
  have h3 := lim_inj h3
  have hn : x.num = y.num := by rw [← sgn_zb x.num, ← sgn_zb y.num, h1, h2]
  obtain ⟨x, hx⟩ := x
  obtain ⟨y, hy⟩ := y
  apply FQ.ext
  cases x with
  | none =>
    cases y with
    | none => rfl
    | some b => exact absurd h3.symm b.den_nz
  | some a =>
    cases y with
    | none => exact absurd h3 a.den_nz
    | some b => show some a = some b; congr 1; exact Rat.ext hn h3
def RD.ok (r : RD) : Bool := okN r.mag && !(r.neg && decide (r.mag.length = 0)) && okN r.den && decide (r.den.length ≠ 0) && decide (r.den.length ≤ 24) && decide (r.mag.length ≤ 24) && decide (lim (Nat.gcd (vl r.mag).toNat (vl r.den).toNat) = [1])
def FQ.good (x : FQ) : Bool := x.1.isSome
theorem lim_one' : lim 1 = [1] := by rw [lim_pos (by omega), show 1 / 1000000000 = 0 by omega, lim_zero]; rfl
theorem lim_is_one {n : Nat} : lim n = [1] ↔ n = 1 := by rw [← lim_one']; exact ⟨lim_inj, fun h => by rw [h]⟩
theorem qd_ok (x : FQ) : (qd x).ok = x.good := by
  obtain ⟨x, hx⟩ := x
  cases x with
  | none =>
    show RD.ok (qd FQ.bad) = false
    rw [qd_bad]; unfold RD.ok RD.zero; simp
  | some a =>
    show RD.ok (qd ⟨some a, hx⟩) = true
    obtain ⟨h1, h2⟩ := hx a rfl
    unfold RD.ok qd
    show (okN (lim a.num.natAbs) && !(zb a.num && decide ((lim a.num.natAbs).length = 0)) && okN (lim a.den) && decide ((lim a.den).length ≠ 0) && decide ((lim a.den).length ≤ 24) && decide ((lim a.num.natAbs).length ≤ 24) && decide (lim (Nat.gcd (vl (lim a.num.natAbs)).toNat (vl (lim a.den)).toNat) = [1])) = true
    have e1 : okN (lim a.num.natAbs) = true := okN_iff.2 ⟨_, rfl, by omega⟩
    have e2 : okN (lim a.den) = true := okN_iff.2 ⟨_, rfl, by omega⟩
    have e3 : (lim a.den).length ≠ 0 := fun h => a.den_nz (lim_nil.1 (List.eq_nil_of_length_eq_zero h))
    have e4 : (zb a.num && decide ((lim a.num.natAbs).length = 0)) = false := by
      unfold zb
      by_cases h : a.num < 0
      · have : (lim a.num.natAbs).length ≠ 0 := fun h' => by have := lim_nil.1 (List.eq_nil_of_length_eq_zero h'); omega
        simp [this]
      · simp [h]
    have e5 : lim (Nat.gcd (vl (lim a.num.natAbs)).toNat (vl (lim a.den)).toNat) = [1] := by
      rw [vl_lim, vl_lim, Int.toNat_natCast, Int.toNat_natCast, lim_is_one]; exact a.reduced
    rw [e1, e2, e4, e5]
    simp [e3, h1, h2]
theorem ok_qd {r : RD} (h : r.ok = true) : ∃ x : FQ, r = qd x ∧ x.good = true := by
  obtain ⟨b, m, d⟩ := r
  unfold RD.ok at h
  simp only [Bool.and_eq_true, decide_eq_true_eq, Bool.not_eq_true'] at h
  obtain ⟨⟨⟨⟨⟨⟨h1, h2⟩, h3⟩, h4⟩, h5⟩, h6⟩, h7⟩ := h
  obtain ⟨n, rfl, _⟩ := okN_iff.1 h1
  obtain ⟨e, rfl, _⟩ := okN_iff.1 h3
  have he : e ≠ 0 := fun h => h4 (by rw [h, lim_zero]; rfl)
  rw [vl_lim, vl_lim, Int.toNat_natCast, Int.toNat_natCast, lim_is_one] at h7
  refine ⟨⟨some ⟨sgn b n, e, he, by rw [sgn_natAbs]; exact h7⟩, ?_⟩, ?_, rfl⟩
  · intro r hr
    cases hr
    exact ⟨by show (lim (sgn b n).natAbs).length ≤ 24; rw [sgn_natAbs]; exact h6, h5⟩
  · show (⟨b, lim n, lim e⟩ : RD) = ⟨zb (sgn b n), lim (sgn b n).natAbs, lim e⟩
    rw [sgn_natAbs, zb_sgn]
    congr 1
    cases b
    · rfl
    · have : 0 < n := by
        rcases Nat.eq_zero_or_pos n with h0 | h0
        · subst h0; rw [lim_zero] at h2; simp at h2
        · exact h0
      simp [this]
noncomputable def rdq (r : RD) : FQ := if h : r.ok = true then (ok_qd h).choose else FQ.bad
theorem rdq_qd (x : FQ) : rdq (qd x) = x := by
  unfold rdq
  by_cases h : (qd x).ok = true
  · rw [dif_pos h]
    exact (qd_inj (ok_qd h).choose_spec.1).symm
  · rw [dif_neg h]
    rw [qd_ok] at h
    apply FQ.ext
    unfold FQ.good at h
    cases e : x.1 with
    | none => rfl
    | some a => rw [e] at h; simp at h
theorem rdq_good (r : RD) : (rdq r).good = r.ok := by
  by_cases h : r.ok = true
  · obtain ⟨x, rfl, hx⟩ := ok_qd h
    rw [rdq_qd, qd_ok]
  · unfold rdq
    rw [dif_neg h]; simp only [Bool.not_eq_true] at h; rw [h]; rfl
theorem qd_rdq {r : RD} (h : r.ok = true) : qd (rdq r) = r := by
  obtain ⟨x, rfl, hx⟩ := ok_qd h
  rw [rdq_qd]
end Go.Proofs.Ytekhgkpnhenecaa
namespace Go.Proofs.Ytekhgkpnhenecaa
open Go Go.RowKit
set_option maxRecDepth 100000
set_option maxHeartbeats 1600000
set_option linter.unusedVariables false
set_option linter.unusedSimpArgs false
theorem l04One_c (f : Fl) (hf : f ≠ .u) (n : Nat) : PC PP F_spec_l04One [sI f (lim n)] (Bo (decide (n = 1))) [] := by
  refine tx W_spec_l04One ke_spec_l04One [] (by kernel_rfl) ?_
  by_cases h : (lim n).length = 1
  · obtain ⟨h0, h9⟩ := lim_len1 h
    have e1 : (lim n).getD 0 0 = n := by rw [lim_one h0 h9]; rfl
    have e2 : ((lim n).length : Int) = 1 := by omega
    simp -dsimp (disch := first | assumption | (refine OM.mk ?_; first | omega | (simp only [List.length_map, List.length_set, List.length_take] <;> omega)) | (simp -dsimp only [go_sem]; done) | fail) only [go_sem, ↓reduceIte, Nat.reduceEqDiff, Nat.reduceAdd, Nat.reduceSub, Nat.reduceMul, Nat.reduceLT, Nat.reduceLeDiff, reduceCtorEq, a_eq, a_neq, a_cast0, a_pred, a_app1, a_zero, Int.reduceToNat,  hf, e1, e2]
    apply decide_eq_decide.2; omega
  · have e2 : ¬ ((lim n).length : Int) = 1 := by omega
    have e3 : n ≠ 1 := by intro e; subst e; rw [lim_one'] at h; exact h rfl
    simp -dsimp (disch := first | assumption | (refine OM.mk ?_; first | omega | (simp only [List.length_map, List.length_set, List.length_take] <;> omega)) | (simp -dsimp only [go_sem]; done) | fail) only [go_sem, ↓reduceIte, Nat.reduceEqDiff, Nat.reduceAdd, Nat.reduceSub, Nat.reduceMul, Nat.reduceLT, Nat.reduceLeDiff, reduceCtorEq, a_eq, a_neq, a_cast0, a_pred, a_app1, a_zero, Int.reduceToNat,  hf, e2, e3]
end Go.Proofs.Ytekhgkpnhenecaa
namespace Go.Proofs.Ytekhgkpnhenecaa
open Go Go.RowKit
set_option maxRecDepth 100000
set_option maxHeartbeats 1600000
set_option linter.unusedVariables false
set_option linter.unusedSimpArgs false
theorem lim_gcd_le (a b : Nat) (hb : 0 < b) : (lim (Nat.gcd a b)).length ≤ (lim b).length := lim_length_mono (Nat.le_of_dvd hb (Nat.gcd_dvd_right a b))
@[go_sem] theorem rdz_neg : RD.zero.neg = false := (rfl)
@[go_sem] theorem rdz_mag : RD.zero.mag = [] := (rfl)
@[go_sem] theorem rdz_den : RD.zero.den = [] := (rfl)
theorem l04Copy_c (f : Fl) (hf : f ≠ .u) (r : RD) (hr : r.mag.length ≤ 1048576 ∧ r.den.length ≤ 1048576) : PC PP F_spec_l04Copy [rV f r] (rV .s r) [] := by
  obtain ⟨b, m, d⟩ := r
  obtain ⟨h1, h2⟩ := hr
  simp only at h1 h2
  refine tx W_spec_l04Copy ke_spec_l04Copy [] (by kernel_rfl) ?_
  simp -dsimp (disch := first | assumption | (refine OM.mk ?_; first | omega | (simp only [List.length_map, List.length_set, List.length_take] <;> omega)) | (simp -dsimp only [go_sem]; done) | fail) only [go_sem, ↓reduceIte, Nat.reduceEqDiff, Nat.reduceAdd, Nat.reduceSub, Nat.reduceMul, Nat.reduceLT, Nat.reduceLeDiff, reduceCtorEq, a_eq, a_neq, a_cast0, a_pred, a_app1, a_zero, Int.reduceToNat]
theorem sV_one : V.sl .s 1 1 [V.lit (Value.int .i64 1)] = sI .s (lim 1) := by rw [lim_one']; rfl
end Go.Proofs.Ytekhgkpnhenecaa
namespace Go.Proofs.Ytekhgkpnhenecaa
open Go Go.RowKit
set_option maxRecDepth 100000
set_option maxHeartbeats 1600000
set_option linter.unusedVariables false
set_option linter.unusedSimpArgs false
def bok (b : Bool) (m : List Int) : Bool := okN m && !(b && decide (m.length = 0))
theorem spec_BigIntOk_c (f : Fl) (hf : f ≠ .u) (b : Bool) (m : List Int) (hm : m.length ≤ 1048576) : PC PP F_spec_BigIntOk [.agg (bC f b m)] (Bo (bok b m)) [] := by
  refine tx W_spec_BigIntOk ke_spec_BigIntOk [] (by kernel_rfl) ?_
  simp -dsimp (disch := first | assumption | (refine OM.mk ?_; first | omega | (simp only [List.length_map, List.length_set, List.length_take] <;> omega)) | (simp -dsimp only [go_sem]; done) | fail) only [go_sem, ↓reduceIte, Nat.reduceEqDiff, Nat.reduceAdd, Nat.reduceSub, Nat.reduceMul, Nat.reduceLT, Nat.reduceLeDiff, reduceCtorEq, a_eq, a_neq, a_cast0, a_pred, a_app1, a_zero, Int.reduceToNat]
  refine callP (spec_NatOk_c f hf m hm) (by simp -dsimp (disch := first | assumption | (simp -dsimp only [go_sem]; done) | fail) only [go_sem]) ?_
  unfold bok
  cases h1 : okN m
  · simp -dsimp (disch := first | assumption | (refine OM.mk ?_; first | omega | (simp only [List.length_map, List.length_set, List.length_take] <;> omega)) | (simp -dsimp only [go_sem]; done) | fail) only [go_sem, ↓reduceIte, Nat.reduceEqDiff, Nat.reduceAdd, Nat.reduceSub, Nat.reduceMul, Nat.reduceLT, Nat.reduceLeDiff, reduceCtorEq, a_eq, a_neq, a_cast0, a_pred, a_app1, a_zero, Int.reduceToNat]
  · cases b
    · simp -dsimp (disch := first | assumption | (refine OM.mk ?_; first | omega | (simp only [List.length_map, List.length_set, List.length_take] <;> omega)) | (simp -dsimp only [go_sem]; done) | fail) only [go_sem, ↓reduceIte, Nat.reduceEqDiff, Nat.reduceAdd, Nat.reduceSub, Nat.reduceMul, Nat.reduceLT, Nat.reduceLeDiff, reduceCtorEq, a_eq, a_neq, a_cast0, a_pred, a_app1, a_zero, Int.reduceToNat]
    · by_cases h2 : m.length = 0
      · simp -dsimp (disch := first | assumption | (refine OM.mk ?_; first | omega | (simp only [List.length_map, List.length_set, List.length_take] <;> omega)) | (simp -dsimp only [go_sem]; done) | fail) only [go_sem, ↓reduceIte, Nat.reduceEqDiff, Nat.reduceAdd, Nat.reduceSub, Nat.reduceMul, Nat.reduceLT, Nat.reduceLeDiff, reduceCtorEq, a_eq, a_neq, a_cast0, a_pred, a_app1, a_zero, Int.reduceToNat,  h2]
      · simp -dsimp (disch := first | assumption | (refine OM.mk ?_; first | omega | (simp only [List.length_map, List.length_set, List.length_take] <;> omega)) | (simp -dsimp only [go_sem]; done) | fail) only [go_sem, ↓reduceIte, Nat.reduceEqDiff, Nat.reduceAdd, Nat.reduceSub, Nat.reduceMul, Nat.reduceLT, Nat.reduceLeDiff, reduceCtorEq, a_eq, a_neq, a_cast0, a_pred, a_app1, a_zero, Int.reduceToNat]
        simp [h2]
theorem ok_rest {b : Bool} {m d : List Int} (h : bok b m = true) (h2 : okN d = true) : ∃ n e, m = lim n ∧ d = lim e ∧ RD.ok ⟨b, m, d⟩ = (decide (d.length ≠ 0) && decide (d.length ≤ 24) && decide (m.length ≤ 24) && decide (Nat.gcd n e = 1)) := by
  have h1 : okN m = true := by unfold bok at h; simp at h; exact h.1
  obtain ⟨n, rfl, _⟩ := okN_iff.1 h1
  obtain ⟨e, rfl, _⟩ := okN_iff.1 h2
  refine ⟨n, e, rfl, rfl, ?_⟩
  show (bok b (lim n) && okN (lim e) && decide ((lim e).length ≠ 0) && decide ((lim e).length ≤ 24) && decide ((lim n).length ≤ 24) && decide (lim (Nat.gcd (vl (lim n)).toNat (vl (lim e)).toNat) = [1])) = _
  rw [h, h2, vl_lim, vl_lim, Int.toNat_natCast, Int.toNat_natCast, Bool.true_and, Bool.true_and]
  congr 1
  exact decide_eq_decide.2 lim_is_one
theorem spec_RatOk_c (f : Fl) (hf : f ≠ .u) (r : RD) (hr : r.small) : PC PP F_spec_RatOk [rV f r] (Bo r.ok) [] := by
  obtain ⟨b, m, d⟩ := r
  obtain ⟨hm, hd⟩ := hr
  simp only at hm hd
  refine tx W_spec_RatOk ke_spec_RatOk [] (by kernel_rfl) ?_
  simp -dsimp (disch := first | assumption | (refine OM.mk ?_; first | omega | (simp only [List.length_map, List.length_set, List.length_take] <;> omega)) | (simp -dsimp only [go_sem]; done) | fail) only [go_sem, ↓reduceIte, Nat.reduceEqDiff, Nat.reduceAdd, Nat.reduceSub, Nat.reduceMul, Nat.reduceLT, Nat.reduceLeDiff, reduceCtorEq, a_eq, a_neq, a_cast0, a_pred, a_app1, a_zero, Int.reduceToNat]
  refine callP (spec_BigIntOk_c f hf b m hm) (by simp -dsimp (disch := first | assumption | (simp -dsimp only [go_sem]; done) | fail) only [go_sem]) ?_
  cases h1 : bok b m
  · have : RD.ok ⟨b, m, d⟩ = false := by
      show (bok b m && okN d && decide (d.length ≠ 0) && decide (d.length ≤ 24) && decide (m.length ≤ 24) && _) = false
      rw [h1]; simp
    rw [this]
    simp -dsimp (disch := first | assumption | (refine OM.mk ?_; first | omega | (simp only [List.length_map, List.length_set, List.length_take] <;> omega)) | (simp -dsimp only [go_sem]; done) | fail) only [go_sem, ↓reduceIte, Nat.reduceEqDiff, Nat.reduceAdd, Nat.reduceSub, Nat.reduceMul, Nat.reduceLT, Nat.reduceLeDiff, reduceCtorEq, a_eq, a_neq, a_cast0, a_pred, a_app1, a_zero, Int.reduceToNat]
  · simp -dsimp (disch := first | assumption | (refine OM.mk ?_; first | omega | (simp only [List.length_map, List.length_set, List.length_take] <;> omega)) | (simp -dsimp only [go_sem]; done) | fail) only [go_sem, ↓reduceIte, Nat.reduceEqDiff, Nat.reduceAdd, Nat.reduceSub, Nat.reduceMul, Nat.reduceLT, Nat.reduceLeDiff, reduceCtorEq, a_eq, a_neq, a_cast0, a_pred, a_app1, a_zero, Int.reduceToNat]
    refine callP (spec_NatOk_c f hf d hd) (by simp -dsimp (disch := first | assumption | (simp -dsimp only [go_sem]; done) | fail) only [go_sem]) ?_
    cases h2 : okN d
    · have : RD.ok ⟨b, m, d⟩ = false := by
        show (bok b m && okN d && decide (d.length ≠ 0) && decide (d.length ≤ 24) && decide (m.length ≤ 24) && _) = false
        rw [h2]; simp
      rw [this]
      simp -dsimp (disch := first | assumption | (refine OM.mk ?_; first | omega | (simp only [List.length_map, List.length_set, List.length_take] <;> omega)) | (simp -dsimp only [go_sem]; done) | fail) only [go_sem, ↓reduceIte, Nat.reduceEqDiff, Nat.reduceAdd, Nat.reduceSub, Nat.reduceMul, Nat.reduceLT, Nat.reduceLeDiff, reduceCtorEq, a_eq, a_neq, a_cast0, a_pred, a_app1, a_zero, Int.reduceToNat]
    · obtain ⟨n, e, rfl, rfl, hk⟩ := ok_rest h1 h2
      rw [hk]
      by_cases h3 : (lim e).length = 0
      · simp -dsimp (disch := first | assumption | (refine OM.mk ?_; first | omega | (simp only [List.length_map, List.length_set, List.length_take] <;> omega)) | (simp -dsimp only [go_sem]; done) | fail) only [go_sem, ↓reduceIte, Nat.reduceEqDiff, Nat.reduceAdd, Nat.reduceSub, Nat.reduceMul, Nat.reduceLT, Nat.reduceLeDiff, reduceCtorEq, a_eq, a_neq, a_cast0, a_pred, a_app1, a_zero, Int.reduceToNat,  h3]
      · by_cases h4 : (lim e).length ≤ 24
        · by_cases h5 : (lim n).length ≤ 24
          · simp -dsimp (disch := first | assumption | (refine OM.mk ?_; first | omega | (simp only [List.length_map, List.length_set, List.length_take] <;> omega)) | (simp -dsimp only [go_sem]; done) | fail) only [go_sem, ↓reduceIte, Nat.reduceEqDiff, Nat.reduceAdd, Nat.reduceSub, Nat.reduceMul, Nat.reduceLT, Nat.reduceLeDiff, reduceCtorEq, a_eq, a_neq, a_cast0, a_pred, a_app1, a_zero, Int.reduceToNat]
            refine callP (l02Gcd_c f f hf hf n e (by omega) (by omega)) (by simp -dsimp (disch := first | assumption | (simp -dsimp only [go_sem]; done) | fail) only [go_sem]) ?_
            simp -dsimp (disch := first | assumption | (refine OM.mk ?_; first | omega | (simp only [List.length_map, List.length_set, List.length_take] <;> omega)) | (simp -dsimp only [go_sem]; done) | fail) only [go_sem, ↓reduceIte, Nat.reduceEqDiff, Nat.reduceAdd, Nat.reduceSub, Nat.reduceMul, Nat.reduceLT, Nat.reduceLeDiff, reduceCtorEq, a_eq, a_neq, a_cast0, a_pred, a_app1, a_zero, Int.reduceToNat]
            refine callP (l04One_c .s fls (Nat.gcd n e)) (by simp -dsimp (disch := first | assumption | (simp -dsimp only [go_sem]; done) | fail) only [go_sem]) ?_
            simp -dsimp (disch := first | assumption | (refine OM.mk ?_; first | omega | (simp only [List.length_map, List.length_set, List.length_take] <;> omega)) | (simp -dsimp only [go_sem]; done) | fail) only [go_sem, ↓reduceIte, Nat.reduceEqDiff, Nat.reduceAdd, Nat.reduceSub, Nat.reduceMul, Nat.reduceLT, Nat.reduceLeDiff, reduceCtorEq, a_eq, a_neq, a_cast0, a_pred, a_app1, a_zero, Int.reduceToNat]
            simp [h3, h4, h5]
          · simp -dsimp (disch := first | assumption | (refine OM.mk ?_; first | omega | (simp only [List.length_map, List.length_set, List.length_take] <;> omega)) | (simp -dsimp only [go_sem]; done) | fail) only [go_sem, ↓reduceIte, Nat.reduceEqDiff, Nat.reduceAdd, Nat.reduceSub, Nat.reduceMul, Nat.reduceLT, Nat.reduceLeDiff, reduceCtorEq, a_eq, a_neq, a_cast0, a_pred, a_app1, a_zero, Int.reduceToNat]
            simp [h5]
        · simp -dsimp (disch := first | assumption | (refine OM.mk ?_; first | omega | (simp only [List.length_map, List.length_set, List.length_take] <;> omega)) | (simp -dsimp only [go_sem]; done) | fail) only [go_sem, ↓reduceIte, Nat.reduceEqDiff, Nat.reduceAdd, Nat.reduceSub, Nat.reduceMul, Nat.reduceLT, Nat.reduceLeDiff, reduceCtorEq, a_eq, a_neq, a_cast0, a_pred, a_app1, a_zero, Int.reduceToNat]
          simp [h4]
theorem rdq_bad {r : RD} (h : r.ok = false) : rdq r = FQ.bad := by
  unfold rdq; rw [dif_neg (by rw [h]; decide)]
end Go.Proofs.Ytekhgkpnhenecaa
