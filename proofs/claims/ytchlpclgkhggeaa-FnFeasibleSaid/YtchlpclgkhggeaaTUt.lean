/- part of the proof -/
import Derived.Test.YtchlpclgkhggeaaTUs
namespace Go.Proofs.Ytchlpclgkhggeaa
open Go Go.RowKit
set_option maxRecDepth 100000
set_option maxHeartbeats 4000000
set_option linter.unusedVariables false
set_option linter.unusedSimpArgs false
theorem bnd_27 {r : Nat} (hr : r ≤ 3) : bnd 100 r ≤ 2 ^ 27 := Nat.le_trans (bnd_mono (by decide) hr) (by decide +kernel)
theorem fcmp_le {x y : FQ} {r s : Rat} {k l : Nat} (h : FV x r k) (g : FV y s l) (e : r ≤ s) : x.cmp y ≤ 0 := by
  rcases rlt_or_le r s with q | q
  · have := (h.cmp_lt g).2 q; omega
  · have := (h.cmp_eq g).2 (by grind); omega
theorem fcmp_ge {x y : FQ} {r s : Rat} {k l : Nat} (h : FV x r k) (g : FV y s l) (e : s ≤ r) : 0 ≤ x.cmp y := by
  have : ¬ x.cmp y < 0 := fun q => by have := (h.cmp_lt g).1 q; grind
  omega
theorem PD.val_sz {p : Prg} {r c : Nat} (h : PD p r c) {x : Nat → Rat} {k : Nat} (hx : ∀ j, j < c → Sz (x j) k) : Sz (p.lp.v x) (c * (k + 8)) := by
  unfold LP.v
  rw [h.n]
  have := Sz.sm (n := c) (k := k + 7) (f := fun j => p.lp.c j * x j) fun j hj => by
    rw [h.C]
    have hc := h.cc j
    exact ((Sz.int (z := p.c.getD j 0) (k := 7) (by show _ ≤ 128; omega)).mul (hx j hj)).mono (by omega)
  exact this
def LP.op (p : LP) : LP := ⟨p.m, p.n, p.A, p.b, fun j => -p.c j⟩
theorem LP.op_v {p : LP} {x : Nat → Rat} : p.op.v x = -p.v x := by
  show sm p.n (fun j => -p.c j * x j) = -sm p.n (fun j => p.c j * x j)
  rw [← sm_neg]; exact sm_congr fun j _ => by grind
theorem leastP_lp {p : Prg} {r c : Nat} (h : PD p r c) (hc : p.c.length = c) : (leastP p).lp = p.lp.op := by
  show LP.mk _ _ _ _ _ = LP.mk _ _ _ _ _
  congr 1
  funext j
  rw [h.C]
  show (((negW p.c).getD j 0 : Int) : Rat) = -((p.c.getD j 0 : Int) : Rat)
  have hb := h.cc j
  have e : (negW p.c).getD j 0 = -p.c.getD j 0 := by
    by_cases hj : j < p.c.length
    · unfold negW
      rw [List.getD_eq_getElem?_getD, List.getElem?_map, List.getElem?_eq_getElem hj]
      have e1 : p.c.getD j 0 = p.c[j] := by rw [List.getD_eq_getElem?_getD, List.getElem?_eq_getElem hj]; rfl
      rw [e1] at hb ⊢
      show IntKind.wrap .i64 (-p.c[j]) = _
      exact w64 (by omega)
    · rw [List.getD_eq_getElem?_getD, List.getElem?_eq_none (by rw [negW_length]; omega), List.getD_eq_getElem?_getD, List.getElem?_eq_none (by omega)]; rfl
  rw [e, Rat.intCast_neg]
theorem feas_facts (l : List Int) (c : CS) : (feaP l c).small ∧ smallL ((feaX l c).map qd) ∧ wf64 (feaP l c).c ∧ feasB (feaP l c) ((feaX l c).map qd) = true ∧ (objQ (feaP l c) ((feaX l c).map qd)).good = true ∧
    ((∃ X w, solP (feaP l c) = ⟨0, X, qd w⟩ ∧ w.good = true ∧ (objQ (feaP l c) ((feaX l c).map qd)).cmp w ≤ 0) ∨ solP (feaP l c) = ⟨3, [], RD.zero⟩) ∧
    ((∃ X w, leastQ (solP (leastP (feaP l c))) = ⟨0, X, qd w⟩ ∧ w.good = true ∧ 0 ≤ (objQ (feaP l c) ((feaX l c).map qd)).cmp w) ∨ leastQ (solP (leastP (feaP l c))) = ⟨3, [], RD.zero⟩) := by
  obtain ⟨ho, ⟨r, n, hr, hc, r1, r3, n2, n5, hdn⟩, hx, hfx⟩ := feaP_ok l c
  have hXl : (feaX l c).length = n := by unfold feaX; rw [rowQ_length, hdn]
  have hX : (feaX l c) = rowQ n fun j => FQ.ofInt (xD l c j) := by unfold feaX; rw [hdn]
  generalize feaP l c = p at *
  have hd := PD.mk' ho hr hc
  have hcl : p.c.length = n := by obtain ⟨_, _, _, _, hcl, _⟩ := okP_spec ho; omega
  have hv : VL ((feaX l c).map qd) n (fun j => ((xD l c j : Int) : Rat)) 3 := by
    rw [hX]
    exact VL.of fun j _ => FV.ofInt (by have := hx j; show _ ≤ 8; omega) (by omega)
  have hn5 : n * (3 + 8) ≤ 5 * 11 := Nat.mul_le_mul n5 (by omega)
  have hob := objQ_val hd ho hc hv (by omega)
  have hsm : smallL ((feaX l c).map qd) := (qdl_small (by rw [hXl]; omega)).1
  have hol : okP' (leastP p) = true := by rw [okP_least (wf_ok ho)]; exact ho
  have hdl := PD.mk' (p := leastP p) hol hr hc
  have hlp := leastP_lp hd hcl
  refine ⟨okP_small ho, hsm, wf_ok ho, feasB_yes hd ho hr hc hv (by omega) hfx, hob.good, ?_, ?_⟩
  · rcases solP_lp ho with ⟨X, hb, e⟩ | ⟨_, _, e⟩ | ⟨h0, e⟩
    · have hs := hd.val_sz (hd.best_sz hb (bnd_27 r3))
      have hK : n * (27 + 8) ≤ 5 * 35 := Nat.mul_le_mul n5 (by omega)
      have hw : FV (FQ.fit (p.lp.v X)) (p.lp.v X) (n * (27 + 8)) := ⟨fit_sz hs (by omega), hs⟩
      exact .inl ⟨_, _, e, hw.good, fcmp_le hob hw (hb.max hfx)⟩
    · exact .inr e
    · exact absurd ⟨_, hfx⟩ h0
  · rcases solP_lp hol with ⟨X, hb, e⟩ | ⟨_, _, e⟩ | ⟨h0, e⟩
    · have hs := hdl.val_sz (hdl.best_sz hb (bnd_27 r3))
      have hK : n * (27 + 8) ≤ 5 * 35 := Nat.mul_le_mul n5 (by omega)
      have hw : FV (FQ.fit ((leastP p).lp.v X)) ((leastP p).lp.v X) (n * (27 + 8)) := ⟨fit_sz hs (by omega), hs⟩
      refine .inl ⟨(rowQ (leastP p).cols.toNat fun j => FQ.fit (X j)).map qd, (FQ.fit ((leastP p).lp.v X)).neg, ?_, hw.neg.good, fcmp_ge hob hw.neg ?_⟩
      · rw [e]
        show (if (0 : Int) = 0 then _ else _ : QD) = _
        rw [if_pos rfl, rdq_qd]
      · have hm := hb.max (y := fun j => ((xD l c j : Int) : Rat)) (by rw [hlp]; exact hfx)
        rw [hlp, LP.op_v, LP.op_v] at hm
        rw [hlp, LP.op_v]; grind
    · refine .inr ?_
      rw [e]; exact if_neg (by decide)
    · exact absurd ⟨_, (by rw [hlp]; exact hfx : (leastP p).lp.Fx _)⟩ h0
theorem FnFeasible_s (l : List Int) : PC PP F_laws_FnFeasible [byV .s l] (Bo true) [] := by
  by_cases hl : l.length ≤ 1048576
  · have q1 := MakeFeasible_s l hl
    obtain ⟨hp, hX, hw, hf, hg, hr, ht⟩ := feas_facts l (CS.new l)
    have q2 := impl_ObjectiveAt_s (feaP l (CS.new l)) _ hp hX
    have q3 := impl_SolveProgram_c .s fls (feaP l (CS.new l)) hp
    have q4 := impl_LeastOf_s (feaP l (CS.new l)) hp hw
    have q5 := impl_IsFeasible_c .s .s fls fls (feaP l (CS.new l)) _ hp hX
    rw [hf] at q5
    generalize objQ (feaP l (CS.new l)) ((feaX l (CS.new l)).map qd) = v at *
    generalize (feaX l (CS.new l)).map qd = X at *
    generalize hR : solP (feaP l (CS.new l)) = R at *
    generalize hT : leastQ (solP (leastP (feaP l (CS.new l)))) = T at *
    generalize feaP l (CS.new l) = p at *
    have hn : ¬ (l.length : Int) > 1048576 := by omega
    rcases hr with ⟨X1, w1, e1, g1, c1⟩ | e1
    all_goals rcases ht with ⟨X2, w2, e2, g2, c2⟩ | e2
    all_goals subst e1
    all_goals subst e2
    all_goals
      clear hR hT
      simp only [reV, reC] at q3 q4
      refine tx W_laws_FnFeasible ke_laws_FnFeasible [] (by kernel_rfl) ?_
      simp -dsimp(disch:=first|exact om|fail)only[go_sem,↓reduceIte,Nat.reduceEqDiff,Nat.reduceAdd,Nat.reduceSub,Nat.reduceMul,Nat.reduceLT,Nat.reduceLeDiff,reduceCtorEq,a_eq,a_neq,a_cast0,a_pred,a_app1,a_zero,Int.reduceToNat, hn]
      refine callP q1 lL ?_
      simp -dsimp(disch:=first|exact om|fail)only[go_sem,↓reduceIte,Nat.reduceEqDiff,Nat.reduceAdd,Nat.reduceSub,Nat.reduceMul,Nat.reduceLT,Nat.reduceLeDiff,reduceCtorEq,a_eq,a_neq,a_cast0,a_pred,a_app1,a_zero,Int.reduceToNat, pC]
      refine callP q2 (by simp -dsimp(disch:=first|exact om|fail)only[go_sem,↓reduceIte,Nat.reduceEqDiff,Nat.reduceAdd,Nat.reduceSub,Nat.reduceMul,Nat.reduceLT,Nat.reduceLeDiff,reduceCtorEq,a_eq,a_neq,a_cast0,a_pred,a_app1,a_zero,Int.reduceToNat, pC]) ?_
      simp -dsimp(disch:=first|exact om|fail)only[go_sem,↓reduceIte,Nat.reduceEqDiff,Nat.reduceAdd,Nat.reduceSub,Nat.reduceMul,Nat.reduceLT,Nat.reduceLeDiff,reduceCtorEq,a_eq,a_neq,a_cast0,a_pred,a_app1,a_zero,Int.reduceToNat, pC, hg]
      refine callP q3 (by simp -dsimp(disch:=first|exact om|fail)only[go_sem,↓reduceIte,Nat.reduceEqDiff,Nat.reduceAdd,Nat.reduceSub,Nat.reduceMul,Nat.reduceLT,Nat.reduceLeDiff,reduceCtorEq,a_eq,a_neq,a_cast0,a_pred,a_app1,a_zero,Int.reduceToNat, pC]) ?_
      simp -dsimp(disch:=first|exact om|fail)only[go_sem,↓reduceIte,Nat.reduceEqDiff,Nat.reduceAdd,Nat.reduceSub,Nat.reduceMul,Nat.reduceLT,Nat.reduceLeDiff,reduceCtorEq,a_eq,a_neq,a_cast0,a_pred,a_app1,a_zero,Int.reduceToNat, pC]
      refine callP q4 (by simp -dsimp(disch:=first|exact om|fail)only[go_sem,↓reduceIte,Nat.reduceEqDiff,Nat.reduceAdd,Nat.reduceSub,Nat.reduceMul,Nat.reduceLT,Nat.reduceLeDiff,reduceCtorEq,a_eq,a_neq,a_cast0,a_pred,a_app1,a_zero,Int.reduceToNat, pC]) ?_
      simp -dsimp(disch:=first|exact om|fail)only[go_sem,↓reduceIte,Nat.reduceEqDiff,Nat.reduceAdd,Nat.reduceSub,Nat.reduceMul,Nat.reduceLT,Nat.reduceLeDiff,reduceCtorEq,a_eq,a_neq,a_cast0,a_pred,a_app1,a_zero,Int.reduceToNat, pC]
      refine callP q5 (by simp -dsimp(disch:=first|exact om|fail)only[go_sem,↓reduceIte,Nat.reduceEqDiff,Nat.reduceAdd,Nat.reduceSub,Nat.reduceMul,Nat.reduceLT,Nat.reduceLeDiff,reduceCtorEq,a_eq,a_neq,a_cast0,a_pred,a_app1,a_zero,Int.reduceToNat, pC]) ?_
      simp -dsimp(disch:=first|exact om|fail)only[go_sem,↓reduceIte,Nat.reduceEqDiff,Nat.reduceAdd,Nat.reduceSub,Nat.reduceMul,Nat.reduceLT,Nat.reduceLeDiff,reduceCtorEq,a_eq,a_neq,a_cast0,a_pred,a_app1,a_zero,Int.reduceToNat, pC]
    · refine callP (impl_RatCmp_c v w1 hg g1) lL ?_
      simp -dsimp(disch:=first|exact om|fail)only[go_sem,↓reduceIte,Nat.reduceEqDiff,Nat.reduceAdd,Nat.reduceSub,Nat.reduceMul,Nat.reduceLT,Nat.reduceLeDiff,reduceCtorEq,a_eq,a_neq,a_cast0,a_pred,a_app1,a_zero,Int.reduceToNat, c1]
      refine callP (impl_RatCmp_c v w2 hg g2) lL ?_
      simp -dsimp(disch:=first|exact om|fail)only[go_sem,↓reduceIte,Nat.reduceEqDiff,Nat.reduceAdd,Nat.reduceSub,Nat.reduceMul,Nat.reduceLT,Nat.reduceLeDiff,reduceCtorEq,a_eq,a_neq,a_cast0,a_pred,a_app1,a_zero,Int.reduceToNat, c2]
    · refine callP (impl_RatCmp_c v w1 hg g1) lL ?_
      simp -dsimp(disch:=first|exact om|fail)only[go_sem,↓reduceIte,Nat.reduceEqDiff,Nat.reduceAdd,Nat.reduceSub,Nat.reduceMul,Nat.reduceLT,Nat.reduceLeDiff,reduceCtorEq,a_eq,a_neq,a_cast0,a_pred,a_app1,a_zero,Int.reduceToNat, c1]
    · refine callP (impl_RatCmp_c v w2 hg g2) lL ?_
      simp -dsimp(disch:=first|exact om|fail)only[go_sem,↓reduceIte,Nat.reduceEqDiff,Nat.reduceAdd,Nat.reduceSub,Nat.reduceMul,Nat.reduceLT,Nat.reduceLeDiff,reduceCtorEq,a_eq,a_neq,a_cast0,a_pred,a_app1,a_zero,Int.reduceToNat, c2]
  · have hn : (l.length : Int) > 1048576 := by omega
    refine tx W_laws_FnFeasible ke_laws_FnFeasible [] (by kernel_rfl) ?_
    simp -dsimp(disch:=first|exact om|fail)only[go_sem,↓reduceIte,Nat.reduceEqDiff,Nat.reduceAdd,Nat.reduceSub,Nat.reduceMul,Nat.reduceLT,Nat.reduceLeDiff,reduceCtorEq,a_eq,a_neq,a_cast0,a_pred,a_app1,a_zero,Int.reduceToNat, hn]
theorem FnFeasible_c (f : Fl) (hf : f ≠ .u) (l : List Int) (hl : l.length ≤ 9223372036854775807) : PC PP F_laws_FnFeasible [byV f l] (Bo true) [] := by_lent (FnFeasible_s l) f hf
end Go.Proofs.Ytchlpclgkhggeaa
