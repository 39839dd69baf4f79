/- part of the proof -/
import Derived.Test.YtekhgkpnhenecaaTIa
namespace Go.Proofs.Ytekhgkpnhenecaa
open Go Go.RowKit
set_option maxRecDepth 100000
set_option maxHeartbeats 1600000
set_option linter.unusedVariables false
set_option linter.unusedSimpArgs false
abbrev zV (f : Fl) (z : Int) : V := .agg (bC f (zb z) (lim z.natAbs))
def rtC (f : Fl) (r : Rat) : List V := [Bo (zb r.num), sI f (lim r.num.natAbs), sI f (lim r.den)]
@[go_sem] theorem rtC_eq {f : Fl} {r : Rat} : rtC f r = [Bo (zb r.num), sI f (lim r.num.natAbs), sI f (lim r.den)] := (rfl)
abbrev pR (f : Fl) (r : Rat) : V := .ptr f (rtC f r)
def pQ (f : Fl) (x : FQ) : V := match x.1 with
  | none => .lit (.pointer none)
  | some r => pR f r
theorem pQ_bad {f : Fl} : pQ f FQ.bad = .lit (.pointer none) := rfl
theorem pQ_cases (f : Fl) (x : FQ) : pQ f x = .lit (.pointer none) ∨ ∃ r, pQ f x = pR f r := by
  unfold pQ; split
  · exact .inl rfl
  · exact .inr ⟨_, rfl⟩
@[go_sem] theorem sh_pQ {n : Nat} {f : Fl} {x : FQ} : V.sh n (pQ f x) = pQ f x := by
  rcases pQ_cases f x with h | ⟨r, h⟩ <;> rw [h] <;> rfl
@[go_sem] theorem cells_pQ {f : Fl} {x : FQ} : V.cells (pQ f x) = some [pQ f x] := by
  rcases pQ_cases f x with h | ⟨r, h⟩ <;> rw [h] <;> rfl
@[go_sem] theorem cell_pQ {f : Fl} {x : FQ} : V.cell (pQ f x) = True := by
  rcases pQ_cases f x with h | ⟨r, h⟩ <;> rw [h] <;> rfl
@[go_sem] theorem flat_pQ {f : Fl} {x : FQ} : V.flat (pQ f x) = True := by
  rcases pQ_cases f x with h | ⟨r, h⟩ <;> rw [h] <;> rfl
@[go_sem] theorem nu_pQ {f : Fl} {x : FQ} (hf : f ≠ .u) : V.nu (pQ f x) = True := by
  rcases pQ_cases f x with h | ⟨r, h⟩ <;> rw [h]
  · rfl
  · cases f
    · rfl
    · rfl
    · exact absurd rfl hf
@[go_sem] theorem rn_pQb {H : List Ob} {js : List (Option Nat)} {f : Fl} {x : FQ} : Rn H js true (pQ f x) (pQ f x) [] = True :=
  eq_true (.same _ _ _ (of_eq_true flat_pQ) fun h => by cases h)
@[go_sem] theorem rn_toB {H : List Ob} {js : List (Option Nat)} {f : Fl} {sz n : Nat} {cs : List V} (hf : f ≠ .u) : Rn H js true (.sl f sz n cs) (.sl .b sz n cs) [] = True := eq_true (Rn.lent hf)
theorem cmp_eq {a b : Nat} : cmpN a b = 0 ↔ a = b := by
  unfold cmpN
  split
  · omega
  · split <;> omega
theorem impl_BigIntOk_c (f : Fl) (hf : f ≠ .u) (b : Bool) (m : List Int) (hm : m.length ≤ 1048576) : PC PP F_impl_BigIntOk [.agg (bC f b m)] (Bo (bok b m)) [] := by
  refine tx W_impl_BigIntOk ke_impl_BigIntOk [] (by kernel_rfl) ?_
  simp -dsimp (disch := first | assumption | (refine OM.mk ?_; first | omega | (simp only [List.length_map, List.length_set, List.length_take] <;> omega)) | (simp -dsimp only [go_sem]; done) | fail) only [go_sem, ↓reduceIte, Nat.reduceEqDiff, Nat.reduceAdd, Nat.reduceSub, Nat.reduceMul, Nat.reduceLT, Nat.reduceLeDiff, reduceCtorEq, a_eq, a_neq, a_cast0, a_pred, a_app1, a_zero, Int.reduceToNat]
  refine callP (impl_NatOk_c f hf m hm) (by simp -dsimp (disch := first | assumption | (simp -dsimp only [go_sem]; done) | fail) only [go_sem]) ?_
  unfold bok
  cases h1 : okN m
  · simp -dsimp (disch := first | assumption | (refine OM.mk ?_; first | omega | (simp only [List.length_map, List.length_set, List.length_take] <;> omega)) | (simp -dsimp only [go_sem]; done) | fail) only [go_sem, ↓reduceIte, Nat.reduceEqDiff, Nat.reduceAdd, Nat.reduceSub, Nat.reduceMul, Nat.reduceLT, Nat.reduceLeDiff, reduceCtorEq, a_eq, a_neq, a_cast0, a_pred, a_app1, a_zero, Int.reduceToNat]
  · cases b
    · simp -dsimp (disch := first | assumption | (refine OM.mk ?_; first | omega | (simp only [List.length_map, List.length_set, List.length_take] <;> omega)) | (simp -dsimp only [go_sem]; done) | fail) only [go_sem, ↓reduceIte, Nat.reduceEqDiff, Nat.reduceAdd, Nat.reduceSub, Nat.reduceMul, Nat.reduceLT, Nat.reduceLeDiff, reduceCtorEq, a_eq, a_neq, a_cast0, a_pred, a_app1, a_zero, Int.reduceToNat]
    · by_cases h2 : m.length = 0
      · simp -dsimp (disch := first | assumption | (refine OM.mk ?_; first | omega | (simp only [List.length_map, List.length_set, List.length_take] <;> omega)) | (simp -dsimp only [go_sem]; done) | fail) only [go_sem, ↓reduceIte, Nat.reduceEqDiff, Nat.reduceAdd, Nat.reduceSub, Nat.reduceMul, Nat.reduceLT, Nat.reduceLeDiff, reduceCtorEq, a_eq, a_neq, a_cast0, a_pred, a_app1, a_zero, Int.reduceToNat,  h2]
      · simp -dsimp (disch := first | assumption | (refine OM.mk ?_; first | omega | (simp only [List.length_map, List.length_set, List.length_take] <;> omega)) | (simp -dsimp only [go_sem]; done) | fail) only [go_sem, ↓reduceIte, Nat.reduceEqDiff, Nat.reduceAdd, Nat.reduceSub, Nat.reduceMul, Nat.reduceLT, Nat.reduceLeDiff, reduceCtorEq, a_eq, a_neq, a_cast0, a_pred, a_app1, a_zero, Int.reduceToNat]
        simp [h2]
theorem impl_RatOk_c (f : Fl) (hf : f ≠ .u) (r : RD) (hr : r.small) : PC PP F_impl_RatOk [rV f r] (Bo r.ok) [] := by
  obtain ⟨b, m, d⟩ := r
  obtain ⟨hm, hd⟩ := hr
  simp only at hm hd
  refine tx W_impl_RatOk ke_impl_RatOk [] (by kernel_rfl) ?_
  simp -dsimp (disch := first | assumption | (refine OM.mk ?_; first | omega | (simp only [List.length_map, List.length_set, List.length_take] <;> omega)) | (simp -dsimp only [go_sem]; done) | fail) only [go_sem, ↓reduceIte, Nat.reduceEqDiff, Nat.reduceAdd, Nat.reduceSub, Nat.reduceMul, Nat.reduceLT, Nat.reduceLeDiff, reduceCtorEq, a_eq, a_neq, a_cast0, a_pred, a_app1, a_zero, Int.reduceToNat]
  refine callP (impl_BigIntOk_c f hf b m hm) (by simp -dsimp (disch := first | assumption | (simp -dsimp only [go_sem]; done) | fail) only [go_sem]) ?_
  cases h1 : bok b m
  · have : RD.ok ⟨b, m, d⟩ = false := by
      show (bok b m && okN d && decide (d.length ≠ 0) && decide (d.length ≤ 24) && decide (m.length ≤ 24) && _) = false
      rw [h1]; simp
    rw [this]
    simp -dsimp (disch := first | assumption | (refine OM.mk ?_; first | omega | (simp only [List.length_map, List.length_set, List.length_take] <;> omega)) | (simp -dsimp only [go_sem]; done) | fail) only [go_sem, ↓reduceIte, Nat.reduceEqDiff, Nat.reduceAdd, Nat.reduceSub, Nat.reduceMul, Nat.reduceLT, Nat.reduceLeDiff, reduceCtorEq, a_eq, a_neq, a_cast0, a_pred, a_app1, a_zero, Int.reduceToNat]
  · simp -dsimp (disch := first | assumption | (refine OM.mk ?_; first | omega | (simp only [List.length_map, List.length_set, List.length_take] <;> omega)) | (simp -dsimp only [go_sem]; done) | fail) only [go_sem, ↓reduceIte, Nat.reduceEqDiff, Nat.reduceAdd, Nat.reduceSub, Nat.reduceMul, Nat.reduceLT, Nat.reduceLeDiff, reduceCtorEq, a_eq, a_neq, a_cast0, a_pred, a_app1, a_zero, Int.reduceToNat]
    refine callP (impl_NatOk_c f hf d hd) (by simp -dsimp (disch := first | assumption | (simp -dsimp only [go_sem]; done) | fail) only [go_sem]) ?_
    cases h2 : okN d
    · have : RD.ok ⟨b, m, d⟩ = false := by
        show (bok b m && okN d && decide (d.length ≠ 0) && decide (d.length ≤ 24) && decide (m.length ≤ 24) && _) = false
        rw [h2]; simp
      rw [this]
      simp -dsimp (disch := first | assumption | (refine OM.mk ?_; first | omega | (simp only [List.length_map, List.length_set, List.length_take] <;> omega)) | (simp -dsimp only [go_sem]; done) | fail) only [go_sem, ↓reduceIte, Nat.reduceEqDiff, Nat.reduceAdd, Nat.reduceSub, Nat.reduceMul, Nat.reduceLT, Nat.reduceLeDiff, reduceCtorEq, a_eq, a_neq, a_cast0, a_pred, a_app1, a_zero, Int.reduceToNat]
    · obtain ⟨n, e, rfl, rfl, hk⟩ := ok_rest h1 h2
      rw [hk]
      by_cases h3 : (lim e).length = 0
      · simp -dsimp (disch := first | assumption | (refine OM.mk ?_; first | omega | (simp only [List.length_map, List.length_set, List.length_take] <;> omega)) | (simp -dsimp only [go_sem]; done) | fail) only [go_sem, ↓reduceIte, Nat.reduceEqDiff, Nat.reduceAdd, Nat.reduceSub, Nat.reduceMul, Nat.reduceLT, Nat.reduceLeDiff, reduceCtorEq, a_eq, a_neq, a_cast0, a_pred, a_app1, a_zero, Int.reduceToNat,  h3]
      · by_cases h5 : (lim n).length ≤ 24
        · by_cases h4 : (lim e).length ≤ 24
          · simp -dsimp (disch := first | assumption | (refine OM.mk ?_; first | omega | (simp only [List.length_map, List.length_set, List.length_take] <;> omega)) | (simp -dsimp only [go_sem]; done) | fail) only [go_sem, ↓reduceIte, Nat.reduceEqDiff, Nat.reduceAdd, Nat.reduceSub, Nat.reduceMul, Nat.reduceLT, Nat.reduceLeDiff, reduceCtorEq, a_eq, a_neq, a_cast0, a_pred, a_app1, a_zero, Int.reduceToNat]
            refine callB' (divisor_b f f hf hf n e (by omega) (by omega)) (by simp [V.fl2, V.fl1, rdC]) (by simp -dsimp only [go_sem, ↓reduceIte, Nat.reduceEqDiff, Nat.reduceAdd, Nat.reduceSub, Nat.reduceMul, Nat.reduceLT, Nat.reduceLeDiff, reduceCtorEq,  List.forall_mem_cons, List.not_mem_nil, false_implies, implies_true]) ?_
            simp -dsimp (disch := first | assumption | (refine OM.mk ?_; first | omega | (simp only [List.length_map, List.length_set, List.length_take] <;> omega)) | (simp -dsimp only [go_sem]; done) | fail) only [go_sem, ↓reduceIte, Nat.reduceEqDiff, Nat.reduceAdd, Nat.reduceSub, Nat.reduceMul, Nat.reduceLT, Nat.reduceLeDiff, reduceCtorEq, a_eq, a_neq, a_cast0, a_pred, a_app1, a_zero, Int.reduceToNat]
            rw [sV_one]
            refine callP (compare_c .b .s flb fls (Nat.gcd n e) 1 (by have := lim_gcd_le n e (lim_pos_len.2 (by omega)); omega) (by rw [lim_one']; decide)) (by simp -dsimp (disch := first | assumption | (simp -dsimp only [go_sem]; done) | fail) only [go_sem]) ?_
            simp -dsimp (disch := first | assumption | (refine OM.mk ?_; first | omega | (simp only [List.length_map, List.length_set, List.length_take] <;> omega)) | (simp -dsimp only [go_sem]; done) | fail) only [go_sem, ↓reduceIte, Nat.reduceEqDiff, Nat.reduceAdd, Nat.reduceSub, Nat.reduceMul, Nat.reduceLT, Nat.reduceLeDiff, reduceCtorEq, a_eq, a_neq, a_cast0, a_pred, a_app1, a_zero, Int.reduceToNat]
            simp [h3, h4, h5]
            exact cmp_eq
          · simp -dsimp (disch := first | assumption | (refine OM.mk ?_; first | omega | (simp only [List.length_map, List.length_set, List.length_take] <;> omega)) | (simp -dsimp only [go_sem]; done) | fail) only [go_sem, ↓reduceIte, Nat.reduceEqDiff, Nat.reduceAdd, Nat.reduceSub, Nat.reduceMul, Nat.reduceLT, Nat.reduceLeDiff, reduceCtorEq, a_eq, a_neq, a_cast0, a_pred, a_app1, a_zero, Int.reduceToNat]
            simp [h4]
        · simp -dsimp (disch := first | assumption | (refine OM.mk ?_; first | omega | (simp only [List.length_map, List.length_set, List.length_take] <;> omega)) | (simp -dsimp only [go_sem]; done) | fail) only [go_sem, ↓reduceIte, Nat.reduceEqDiff, Nat.reduceAdd, Nat.reduceSub, Nat.reduceMul, Nat.reduceLT, Nat.reduceLeDiff, reduceCtorEq, a_eq, a_neq, a_cast0, a_pred, a_app1, a_zero, Int.reduceToNat]
          simp [h5]
end Go.Proofs.Ytekhgkpnhenecaa
namespace Go.Proofs.Ytekhgkpnhenecaa
open Go Go.RowKit
set_option maxRecDepth 100000
set_option maxHeartbeats 1600000
set_option linter.unusedVariables false
set_option linter.unusedSimpArgs false
theorem Le.pRb {H : List Ob} {g : Fl} (hg : g ≠ .u) (r : Rat) : Le H .b (pR g r) (pR g r) := by
  cases g with
  | s => exact .ptr _ _ _ _ (.inl rfl) (by simp -dsimp (disch := first | assumption | (refine OM.mk ?_; first | omega | (simp only [List.length_map, List.length_set, List.length_take] <;> omega)) | (simp -dsimp only [go_sem]; done) | fail) only [go_sem, ↓reduceIte, Nat.reduceEqDiff, Nat.reduceAdd, Nat.reduceSub, Nat.reduceMul, Nat.reduceLT, Nat.reduceLeDiff, reduceCtorEq, a_eq, a_neq, a_cast0, a_pred, a_app1, a_zero, Int.reduceToNat])
  | b => exact .ptr _ _ _ _ ⟨rfl, rfl⟩ (by simp -dsimp (disch := first | assumption | (refine OM.mk ?_; first | omega | (simp only [List.length_map, List.length_set, List.length_take] <;> omega)) | (simp -dsimp only [go_sem]; done) | fail) only [go_sem, ↓reduceIte, Nat.reduceEqDiff, Nat.reduceAdd, Nat.reduceSub, Nat.reduceMul, Nat.reduceLT, Nat.reduceLeDiff, reduceCtorEq, a_eq, a_neq, a_cast0, a_pred, a_app1, a_zero, Int.reduceToNat])
  | u => exact absurd rfl hg
theorem Le.pRbb {H : List Ob} {g : Fl} (hg : g ≠ .u) (r : Rat) : Le H .b (pR g r) (pR .b r) := by
  cases g with
  | s => exact .ptr _ _ _ _ (.inr rfl) (by simp -dsimp (disch := first | assumption | (refine OM.mk ?_; first | omega | (simp only [List.length_map, List.length_set, List.length_take] <;> omega)) | (simp -dsimp only [go_sem]; done) | fail) only [go_sem, ↓reduceIte, Nat.reduceEqDiff, Nat.reduceAdd, Nat.reduceSub, Nat.reduceMul, Nat.reduceLT, Nat.reduceLeDiff, reduceCtorEq, a_eq, a_neq, a_cast0, a_pred, a_app1, a_zero, Int.reduceToNat])
  | b => exact .ptr _ _ _ _ ⟨rfl, rfl⟩ (by simp -dsimp (disch := first | assumption | (refine OM.mk ?_; first | omega | (simp only [List.length_map, List.length_set, List.length_take] <;> omega)) | (simp -dsimp only [go_sem]; done) | fail) only [go_sem, ↓reduceIte, Nat.reduceEqDiff, Nat.reduceAdd, Nat.reduceSub, Nat.reduceMul, Nat.reduceLT, Nat.reduceLeDiff, reduceCtorEq, a_eq, a_neq, a_cast0, a_pred, a_app1, a_zero, Int.reduceToNat])
  | u => exact absurd rfl hg
@[go_sem] theorem le_pQ {H : List Ob} {g : Fl} {x : FQ} (hg : g ≠ .u) : Le H .b (pQ g x) (pQ g x) = True := by
  apply eq_true; unfold pQ; split
  · exact .lit _
  · exact Le.pRb hg _
@[go_sem] theorem le_pQbb {H : List Ob} {g : Fl} {x : FQ} (hg : g ≠ .u) : Le H .b (pQ g x) (pQ .b x) = True := by
  apply eq_true; unfold pQ; split
  · exact .lit _
  · exact Le.pRbb hg _
end Go.Proofs.Ytekhgkpnhenecaa
namespace Go.Proofs.Ytekhgkpnhenecaa
open Go Go.RowKit
set_option maxRecDepth 100000
set_option maxHeartbeats 1600000
set_option linter.unusedVariables false
set_option linter.unusedSimpArgs false
theorem load_b (f : Fl) (hf : f ≠ .u) (r : RD) (hr : r.small) : PB PP F_impl_load [rV f r] (pQ .b (rdq r)) [] := by
  refine txb W_impl_load ke_impl_load [] [] [] (by kernel_rfl) ?_
  simp -dsimp (disch := first | assumption | (refine OM.mk ?_; first | omega | (simp only [List.length_map, List.length_set, List.length_take] <;> omega)) | (simp -dsimp only [go_sem]; done) | fail) only [go_sem, ↓reduceIte, Nat.reduceEqDiff, Nat.reduceAdd, Nat.reduceSub, Nat.reduceMul, Nat.reduceLT, Nat.reduceLeDiff, reduceCtorEq, a_eq, a_neq, a_cast0, a_pred, a_app1, a_zero, Int.reduceToNat]
  refine callP (impl_RatOk_c f hf r hr) (by simp -dsimp (disch := first | assumption | (simp -dsimp only [go_sem]; done) | fail) only [go_sem]) ?_
  cases h1 : r.ok
  · rw [rdq_bad h1, pQ_bad]
    simp -dsimp (disch := first | assumption | (refine OM.mk ?_; first | omega | (simp only [List.length_map, List.length_set, List.length_take] <;> omega)) | (simp -dsimp only [go_sem]; done) | fail) only [go_sem, ↓reduceIte, Nat.reduceEqDiff, Nat.reduceAdd, Nat.reduceSub, Nat.reduceMul, Nat.reduceLT, Nat.reduceLeDiff, reduceCtorEq, a_eq, a_neq, a_cast0, a_pred, a_app1, a_zero, Int.reduceToNat]
    exact RtB.nothing [] (by decide) trivial (by simp -dsimp (disch := first | assumption | (refine OM.mk ?_; first | omega | (simp only [List.length_map, List.length_set, List.length_take] <;> omega)) | (simp -dsimp only [go_sem]; done) | fail) only [go_sem, ↓reduceIte, Nat.reduceEqDiff, Nat.reduceAdd, Nat.reduceSub, Nat.reduceMul, Nat.reduceLT, Nat.reduceLeDiff, reduceCtorEq, a_eq, a_neq, a_cast0, a_pred, a_app1, a_zero, Int.reduceToNat])
  · obtain ⟨x, rfl, hx⟩ := ok_qd h1
    rw [rdq_qd]
    obtain ⟨x, hok⟩ := x
    cases x with
    | none => cases hx
    | some q =>
      simp -dsimp (disch := first | assumption | (refine OM.mk ?_; first | omega | (simp only [List.length_map, List.length_set, List.length_take] <;> omega)) | (simp -dsimp only [go_sem]; done) | fail) only [go_sem, ↓reduceIte, Nat.reduceEqDiff, Nat.reduceAdd, Nat.reduceSub, Nat.reduceMul, Nat.reduceLT, Nat.reduceLeDiff, reduceCtorEq, a_eq, a_neq, a_cast0, a_pred, a_app1, a_zero, Int.reduceToNat]
      refine RtB.shareb (cs := rtC f q) (cs' := rtC .b q) 1 rfl (by simp -dsimp (disch := first | assumption | (refine OM.mk ?_; first | omega | (simp only [List.length_map, List.length_set, List.length_take] <;> omega)) | (simp -dsimp only [go_sem]; done) | fail) only [go_sem, ↓reduceIte, Nat.reduceEqDiff, Nat.reduceAdd, Nat.reduceSub, Nat.reduceMul, Nat.reduceLT, Nat.reduceLeDiff, reduceCtorEq, a_eq, a_neq, a_cast0, a_pred, a_app1, a_zero, Int.reduceToNat]) (by simp -dsimp (disch := first | assumption | (refine OM.mk ?_; first | omega | (simp only [List.length_map, List.length_set, List.length_take] <;> omega)) | (simp -dsimp only [go_sem]; done) | fail) only [go_sem, ↓reduceIte, Nat.reduceEqDiff, Nat.reduceAdd, Nat.reduceSub, Nat.reduceMul, Nat.reduceLT, Nat.reduceLeDiff, reduceCtorEq, a_eq, a_neq, a_cast0, a_pred, a_app1, a_zero, Int.reduceToNat]) (by simp -dsimp (disch := first | assumption | (refine OM.mk ?_; first | omega | (simp only [List.length_map, List.length_set, List.length_take] <;> omega)) | (simp -dsimp only [go_sem]; done) | fail) only [go_sem, ↓reduceIte, Nat.reduceEqDiff, Nat.reduceAdd, Nat.reduceSub, Nat.reduceMul, Nat.reduceLT, Nat.reduceLeDiff, reduceCtorEq, a_eq, a_neq, a_cast0, a_pred, a_app1, a_zero, Int.reduceToNat]) ?_
      exact RtB.nothing [] (by decide) trivial (of_eq_true (rn_refb (by simp -dsimp (disch := first | assumption | (refine OM.mk ?_; first | omega | (simp only [List.length_map, List.length_set, List.length_take] <;> omega)) | (simp -dsimp only [go_sem]; done) | fail) only [go_sem, ↓reduceIte, Nat.reduceEqDiff, Nat.reduceAdd, Nat.reduceSub, Nat.reduceMul, Nat.reduceLT, Nat.reduceLeDiff, reduceCtorEq, a_eq, a_neq, a_cast0, a_pred, a_app1, a_zero, Int.reduceToNat])))
end Go.Proofs.Ytekhgkpnhenecaa
namespace Go.Proofs.Ytekhgkpnhenecaa
open Go Go.RowKit
set_option maxRecDepth 100000
set_option maxHeartbeats 1600000
set_option linter.unusedVariables false
set_option linter.unusedSimpArgs false
theorem PC.nilO {f : FuncId} {r : V} {objs : List Ob} {fl : Fl} (hf : fl ≠ .u) (h : ∀ (a : Option Addr) (c : Nat), c ≤ maxLen → PC PP f [.lit (.slice a 0 c)] r objs) : PC PP f [.sl fl 1 0 []] r objs := by
  refine ⟨(h none 0 (by decide)).1, fun w S B xs hb hr => ?_⟩
  obtain ⟨x, xs', u1, u2, rfl, e2, e3, e4, e5⟩ := hr
  subst e4
  obtain ⟨a, c, rfl, _, hc, _⟩ := e3
  exact (h a c hc).2 w S B _ hb ⟨_, _, [], [], rfl, rfl, ⟨rfl, rfl, rfl⟩, rfl, rfl⟩
theorem clone_g (f : Fl) (hf : f ≠ .u) (l : List Int) (hl : l.length ≤ 1048576) : GC PP F_slices_Clone_int_int [sI f l] [] (.rsl 0 1 0 l.length) [⟨.own, T_int, iC l⟩] := by
  by_cases h0 : l.length = 0
  · obtain rfl := List.eq_nil_of_length_eq_zero h0
    refine PC.gc (PC.nilO hf fun a c hc => GC.pc ?_)
    cases a with
    | none =>
      refine txg W_slices_Clone_int_int ke_slices_Clone_int_int 0 [] [] [] rfl (by kernel_rfl) ?_
      simp -dsimp (disch := first | assumption | (refine OM.mk ?_; first | omega | (simp only [List.length_map, List.length_set, List.length_take] <;> omega)) | (simp -dsimp only [go_sem]; done) | fail) only [go_sem, ↓reduceIte, Nat.reduceEqDiff, Nat.reduceAdd, Nat.reduceSub, Nat.reduceMul, Nat.reduceLT, Nat.reduceLeDiff, reduceCtorEq, a_eq, a_neq, a_cast0, a_pred, a_app1, a_zero, Int.reduceToNat,  Option.isNone_none]
      exact RtG.ren [none] [[]] trivial (by decide) (by simp -dsimp only [go_sem, ↓reduceIte, Nat.reduceEqDiff, Nat.reduceAdd, Nat.reduceSub, Nat.reduceMul, Nat.reduceLT, Nat.reduceLeDiff, reduceCtorEq]; simp [iC]) (by simp -dsimp only [go_sem, ↓reduceIte, Nat.reduceEqDiff, Nat.reduceAdd, Nat.reduceSub, Nat.reduceMul, Nat.reduceLT, Nat.reduceLeDiff, reduceCtorEq])
    | some a =>
      refine txg W_slices_Clone_int_int ke_slices_Clone_int_int 0 [] [3] [] rfl (by kernel_rfl) ?_
      simp -dsimp (disch := first | assumption | (refine OM.mk ?_; first | omega | (simp only [List.length_map, List.length_set, List.length_take] <;> omega)) | (simp -dsimp only [go_sem]; done) | fail) only [go_sem, ↓reduceIte, Nat.reduceEqDiff, Nat.reduceAdd, Nat.reduceSub, Nat.reduceMul, Nat.reduceLT, Nat.reduceLeDiff, reduceCtorEq, a_eq, a_neq, a_cast0, a_pred, a_app1, a_zero, Int.reduceToNat,  Option.isNone_some]
      refine ⟨⟨[(0, .sl .b 1 0 [])], []⟩, StI.var ?_, ?_⟩
      · intro t v ht
        by_cases e : t = 0
        · subst e
          obtain rfl : V.sl .b 1 0 [] = v := Option.some.inj ht
          refine ⟨_, rfl, ?_⟩
          rintro w S B κ x ⟨_, rfl, _⟩
          exact ⟨_, _, rfl, Nat.zero_le _, hc, rfl, .inl ⟨rfl, rfl, by intro h; cases h⟩⟩
        · have e' : (t == 0) = false := by simpa using e
          simp only [List.lookup, e'] at ht
          cases ht
      · simp -dsimp (disch := first | assumption | (refine OM.mk ?_; first | omega | (simp only [List.length_map, List.length_set, List.length_take] <;> omega)) | (simp -dsimp only [go_sem]; done) | fail) only [go_sem, ↓reduceIte, Nat.reduceEqDiff, Nat.reduceAdd, Nat.reduceSub, Nat.reduceMul, Nat.reduceLT, Nat.reduceLeDiff, reduceCtorEq, a_eq, a_neq, a_cast0, a_pred, a_app1, a_zero, Int.reduceToNat]
        exact RtG.nothing [some 0] trivial (by decide) (by simp -dsimp only [go_sem, ↓reduceIte, Nat.reduceEqDiff, Nat.reduceAdd, Nat.reduceSub, Nat.reduceMul, Nat.reduceLT, Nat.reduceLeDiff, reduceCtorEq]; exact RnL.nil _ _) (by simp -dsimp (disch := first | assumption | (refine OM.mk ?_; first | omega | (simp only [List.length_map, List.length_set, List.length_take] <;> omega)) | (simp -dsimp only [go_sem]; done) | fail) only [go_sem, ↓reduceIte, Nat.reduceEqDiff, Nat.reduceAdd, Nat.reduceSub, Nat.reduceMul, Nat.reduceLT, Nat.reduceLeDiff, reduceCtorEq, a_eq, a_neq, a_cast0, a_pred, a_app1, a_zero, Int.reduceToNat])
  · have : 0 < l.length := by omega
    refine txg W_slices_Clone_int_int ke_slices_Clone_int_int 0 [] [] [] rfl (by kernel_rfl) ?_
    simp -dsimp (disch := first | assumption | (refine OM.mk ?_; first | omega | (simp only [List.length_map, List.length_set, List.length_take] <;> omega)) | (simp -dsimp only [go_sem]; done) | fail) only [go_sem, ↓reduceIte, Nat.reduceEqDiff, Nat.reduceAdd, Nat.reduceSub, Nat.reduceMul, Nat.reduceLT, Nat.reduceLeDiff, reduceCtorEq, a_eq, a_neq, a_cast0, a_pred, a_app1, a_zero, Int.reduceToNat]
    exact RtG.nothing [some 0] (by simp -dsimp only [go_sem, ↓reduceIte, Nat.reduceEqDiff, Nat.reduceAdd, Nat.reduceSub, Nat.reduceMul, Nat.reduceLT, Nat.reduceLeDiff, reduceCtorEq]) (by decide) (by simp -dsimp only [go_sem, ↓reduceIte, Nat.reduceEqDiff, Nat.reduceAdd, Nat.reduceSub, Nat.reduceMul, Nat.reduceLT, Nat.reduceLeDiff, reduceCtorEq,  List.map_cons, List.map_nil]) (by simp -dsimp only [go_sem, ↓reduceIte, Nat.reduceEqDiff, Nat.reduceAdd, Nat.reduceSub, Nat.reduceMul, Nat.reduceLT, Nat.reduceLeDiff, reduceCtorEq])
theorem fewer_g (f : Fl) (hf : f ≠ .u) (z : Int) (hz : (lim z.natAbs).length ≤ 60) : GC PP F_impl_BigInt_fewer [zV f z] [] (.agg [Bo (zb z), .rsl 0 1 0 (lim z.natAbs).length]) [⟨.own, T_int, iC (lim z.natAbs)⟩] := by
  refine txg W_impl_BigInt_fewer ke_impl_BigInt_fewer 0 [] [] [] rfl (by kernel_rfl) ?_
  simp -dsimp (disch := first | assumption | (refine OM.mk ?_; first | omega | (simp only [List.length_map, List.length_set, List.length_take] <;> omega)) | (simp -dsimp only [go_sem]; done) | fail) only [go_sem, ↓reduceIte, Nat.reduceEqDiff, Nat.reduceAdd, Nat.reduceSub, Nat.reduceMul, Nat.reduceLT, Nat.reduceLeDiff, reduceCtorEq, a_eq, a_neq, a_cast0, a_pred, a_app1, a_zero, Int.reduceToNat]
  refine callO' (clone_g f hf (lim z.natAbs) (by omega)) (by simp -dsimp (disch := first | assumption | (simp -dsimp only [go_sem]; done) | fail) only [go_sem]) (by simp -dsimp only [go_sem, ↓reduceIte, Nat.reduceEqDiff, Nat.reduceAdd, Nat.reduceSub, Nat.reduceMul, Nat.reduceLT, Nat.reduceLeDiff, reduceCtorEq,  List.forall_mem_cons, List.not_mem_nil, false_implies, implies_true]) ?_
  simp -dsimp (disch := first | assumption | (refine OM.mk ?_; first | omega | (simp only [List.length_map, List.length_set, List.length_take] <;> omega)) | (simp -dsimp only [go_sem]; done) | fail) only [go_sem, ↓reduceIte, Nat.reduceEqDiff, Nat.reduceAdd, Nat.reduceSub, Nat.reduceMul, Nat.reduceLT, Nat.reduceLeDiff, reduceCtorEq, a_eq, a_neq, a_cast0, a_pred, a_app1, a_zero, Int.reduceToNat]
  exact RtG.nothing [some 2] (by simp -dsimp only [go_sem, ↓reduceIte, Nat.reduceEqDiff, Nat.reduceAdd, Nat.reduceSub, Nat.reduceMul, Nat.reduceLT, Nat.reduceLeDiff, reduceCtorEq]) (by decide) (by simp -dsimp only [go_sem, ↓reduceIte, Nat.reduceEqDiff, Nat.reduceAdd, Nat.reduceSub, Nat.reduceMul, Nat.reduceLT, Nat.reduceLeDiff, reduceCtorEq,  List.map_cons, List.map_nil]) (by simp -dsimp only [go_sem, ↓reduceIte, Nat.reduceEqDiff, Nat.reduceAdd, Nat.reduceSub, Nat.reduceMul, Nat.reduceLT, Nat.reduceLeDiff, reduceCtorEq])
theorem store_g (f : Fl) (hf : f ≠ .u) (x : FQ) : GC PP F_impl_store [pQ f x] [] (rO (qd x)) (rH (qd x)) := by
  obtain ⟨x, hx⟩ := x
  cases x with
  | none =>
    show GC PP F_impl_store [.lit (.pointer none)] [] (rO (qd FQ.bad)) (rH (qd FQ.bad))
    rw [qd_bad]
    refine txg W_impl_store ke_impl_store 0 [] [] [] rfl (by kernel_rfl) ?_
    simp -dsimp (disch := first | assumption | (refine OM.mk ?_; first | omega | (simp only [List.length_map, List.length_set, List.length_take] <;> omega)) | (simp -dsimp only [go_sem]; done) | fail) only [go_sem, ↓reduceIte, Nat.reduceEqDiff, Nat.reduceAdd, Nat.reduceSub, Nat.reduceMul, Nat.reduceLT, Nat.reduceLeDiff, reduceCtorEq, a_eq, a_neq, a_cast0, a_pred, a_app1, a_zero, Int.reduceToNat]
    exact RtG.ren [none, none] [[], []] trivial (by decide) (by simp -dsimp only [go_sem, ↓reduceIte, Nat.reduceEqDiff, Nat.reduceAdd, Nat.reduceSub, Nat.reduceMul, Nat.reduceLT, Nat.reduceLeDiff, reduceCtorEq]; simp [iC]) (by simp -dsimp (disch := first | assumption | (refine OM.mk ?_; first | omega | (simp only [List.length_map, List.length_set, List.length_take] <;> omega)) | (simp -dsimp only [go_sem]; done) | fail) only [go_sem, ↓reduceIte, Nat.reduceEqDiff, Nat.reduceAdd, Nat.reduceSub, Nat.reduceMul, Nat.reduceLT, Nat.reduceLeDiff, reduceCtorEq, a_eq, a_neq, a_cast0, a_pred, a_app1, a_zero, Int.reduceToNat])
  | some r =>
    have h1 := hx r rfl
    show GC PP F_impl_store [pR f r] [] (.agg [Bo (zb r.num), .rsl 0 1 0 (lim r.num.natAbs).length, .rsl 1 1 0 (lim r.den).length]) [⟨.own, T_int, iC (lim r.num.natAbs)⟩, ⟨.own, T_int, iC (lim r.den)⟩]
    refine txg W_impl_store ke_impl_store 0 [] [] [] rfl (by kernel_rfl) ?_
    simp -dsimp (disch := first | assumption | (refine OM.mk ?_; first | omega | (simp only [List.length_map, List.length_set, List.length_take] <;> omega)) | (simp -dsimp only [go_sem]; done) | fail) only [go_sem, ↓reduceIte, Nat.reduceEqDiff, Nat.reduceAdd, Nat.reduceSub, Nat.reduceMul, Nat.reduceLT, Nat.reduceLeDiff, reduceCtorEq, a_eq, a_neq, a_cast0, a_pred, a_app1, a_zero, Int.reduceToNat]
    refine callO' (fewer_g f hf r.num (by omega)) (by simp -dsimp (disch := first | assumption | (simp -dsimp only [go_sem]; done) | fail) only [go_sem]) (by simp -dsimp only [go_sem, ↓reduceIte, Nat.reduceEqDiff, Nat.reduceAdd, Nat.reduceSub, Nat.reduceMul, Nat.reduceLT, Nat.reduceLeDiff, reduceCtorEq,  List.forall_mem_cons, List.not_mem_nil, false_implies, implies_true]) ?_
    simp -dsimp (disch := first | assumption | (refine OM.mk ?_; first | omega | (simp only [List.length_map, List.length_set, List.length_take] <;> omega)) | (simp -dsimp only [go_sem]; done) | fail) only [go_sem, ↓reduceIte, Nat.reduceEqDiff, Nat.reduceAdd, Nat.reduceSub, Nat.reduceMul, Nat.reduceLT, Nat.reduceLeDiff, reduceCtorEq, a_eq, a_neq, a_cast0, a_pred, a_app1, a_zero, Int.reduceToNat]
    refine callO' (clone_g f hf (lim r.den) (by omega)) (by simp -dsimp (disch := first | assumption | (simp -dsimp only [go_sem]; done) | fail) only [go_sem]) (by simp -dsimp only [go_sem, ↓reduceIte, Nat.reduceEqDiff, Nat.reduceAdd, Nat.reduceSub, Nat.reduceMul, Nat.reduceLT, Nat.reduceLeDiff, reduceCtorEq,  List.forall_mem_cons, List.not_mem_nil, false_implies, implies_true]) ?_
    simp -dsimp (disch := first | assumption | (refine OM.mk ?_; first | omega | (simp only [List.length_map, List.length_set, List.length_take] <;> omega)) | (simp -dsimp only [go_sem]; done) | fail) only [go_sem, ↓reduceIte, Nat.reduceEqDiff, Nat.reduceAdd, Nat.reduceSub, Nat.reduceMul, Nat.reduceLT, Nat.reduceLeDiff, reduceCtorEq, a_eq, a_neq, a_cast0, a_pred, a_app1, a_zero, Int.reduceToNat]
    exact RtG.nothing [some 1, some 2] (by simp -dsimp only [go_sem, ↓reduceIte, Nat.reduceEqDiff, Nat.reduceAdd, Nat.reduceSub, Nat.reduceMul, Nat.reduceLT, Nat.reduceLeDiff, reduceCtorEq]) (by decide) (by simp -dsimp only [go_sem, ↓reduceIte, Nat.reduceEqDiff, Nat.reduceAdd, Nat.reduceSub, Nat.reduceMul, Nat.reduceLT, Nat.reduceLeDiff, reduceCtorEq,  List.map_cons, List.map_nil]) (by simp -dsimp only [go_sem, ↓reduceIte, Nat.reduceEqDiff, Nat.reduceAdd, Nat.reduceSub, Nat.reduceMul, Nat.reduceLT, Nat.reduceLeDiff, reduceCtorEq])
end Go.Proofs.Ytekhgkpnhenecaa
