/- part of the proof -/
import Derived.Test.YtpmjjdhnacmphaaTXa
import Derived.Test.YtpmjjdhnacmphaaTJa
namespace Go.Proofs.Ytpmjjdhnacmphaa
open Go Go.RowKit
set_option maxRecDepth 100000
set_option maxHeartbeats 4000000
set_option linter.unusedVariables false
set_option linter.unusedSimpArgs false
def sumQ (g : Nat → FQ) : Nat → FQ
  | 0 => FQ.ofInt 0
  | n + 1 => (sumQ g n).add (g n)
theorem sumQ_congr {g h : Nat → FQ} {n : Nat} (e : ∀ i, i < n → g i = h i) : sumQ g n = sumQ h n := by
  induction n with
  | zero => rfl
  | succ n ih => show (sumQ g n).add (g n) = (sumQ h n).add (h n); rw [ih (fun i hi => e i (by omega)), e n (by omega)]
theorem good_some {x : FQ} (h : x.good = true) : ∃ r, x.1 = some r := by
  unfold FQ.good at h
  cases e : x.1 with
  | none => rw [e] at h; cases h
  | some r => exact ⟨r, rfl⟩
theorem fq_add0 (s x : FQ) (hx : x.1 = some 0) : s.add x = s := by
  obtain ⟨x, ok⟩ := x
  simp only at hx
  subst hx
  cases hs : s.1 with
  | none =>
    obtain ⟨s, oks⟩ := s
    simp only at hs
    subst hs; rfl
  | some r =>
    have e := FQ.mk_of hs
    conv => rhs; rw [e]
    unfold FQ.add lift2
    rw [hs]
    show FQ.fit (r + 0) = FQ.fit r
    rw [Rat.add_zero]
theorem fit_zero : (FQ.fit 0).1 = some 0 := ofInt_some (n := 0) (by decide)
theorem num_of {x : FQ} {r : Rat} (h : x.1 = some r) : x.num = r.num := by unfold FQ.num; rw [h]
theorem fq_mul0 {x y : FQ} (hx : x.good = true) (hy : y.good = true) (h : x.num = 0 ∨ y.num = 0) : (x.mul y).1 = some 0 := by
  obtain ⟨r, hr⟩ := good_some hx
  obtain ⟨q, hq⟩ := good_some hy
  rw [num_of hr, num_of hq] at h
  unfold FQ.mul lift2
  rw [hr, hq]
  have : r * q = 0 := by
    rcases h with h | h
    · rw [Rat.num_eq_zero.1 h, Rat.zero_mul]
    · rw [Rat.num_eq_zero.1 h, Rat.mul_zero]
  show (FQ.fit (r * q)).1 = some 0
  rw [this]; exact fit_zero
theorem l05Nil_c (f : Fl) (hf : f ≠ .u) (x : FQ) : PC PP F_spec_l05Nil [rV f (qd x)] (Bo (decide (x.num = 0))) [] := by
  refine tx W_spec_l05Nil ke_spec_l05Nil [] (by kernel_rfl) ?_
  simp -dsimp(disch:=first|exact om|fail)only[go_sem,↓reduceIte,Nat.reduceEqDiff,Nat.reduceAdd,Nat.reduceSub,Nat.reduceMul,Nat.reduceLT,Nat.reduceLeDiff,reduceCtorEq,a_eq,a_neq,a_cast0,a_pred,a_app1,a_zero,Int.reduceToNat]
  apply decide_eq_decide.2
  show ((lim x.num.natAbs).length : Int) = 0 ↔ _
  constructor
  · intro h
    have h0 : (lim x.num.natAbs).length = 0 := by omega
    have := lim_nil.1 (List.eq_nil_of_length_eq_zero h0); omega
  · intro h
    rw [h]; show ((lim 0).length : Int) = 0; rw [lim_zero]; rfl
theorem l05Inner_c (f g : Fl) (hf : f ≠ .u) (hg : g ≠ .u) (x y : List FQ) (e : x.length = y.length) (hl : x.length ≤ 1000000) (gx : allG x = true) (gy : allG y = true) :
    PC PP F_spec_l05Inner [sR f (x.map qd), sR g (y.map qd)] (rV .s (qd (sumQ (fun i => (x.getD i FQ.bad).mul (y.getD i FQ.bad)) x.length))) [] := by
  have hlx : (x.map qd).length = x.length := List.length_map _
  have hly : (y.map qd).length = y.length := List.length_map _
  refine txe W_spec_l05Inner ke_spec_l05Inner [] [] [] (by kernel_rfl) ?_
  simp -dsimp(disch:=first|exact om|fail)only[go_sem,↓reduceIte,Nat.reduceEqDiff,Nat.reduceAdd,Nat.reduceSub,Nat.reduceMul,Nat.reduceLT,Nat.reduceLeDiff,reduceCtorEq,a_eq,a_neq,a_cast0,a_pred,a_app1,a_zero,Int.reduceToNat]
  refine callP l05Zero_c lL ?_
  simp -dsimp(disch:=first|exact om|fail)only[go_sem,↓reduceIte,Nat.reduceEqDiff,Nat.reduceAdd,Nat.reduceSub,Nat.reduceMul,Nat.reduceLT,Nat.reduceLeDiff,reduceCtorEq,a_eq,a_neq,a_cast0,a_pred,a_app1,a_zero,Int.reduceToNat]
  refine loopJ (fun k : Nat => k ≤ x.length) (fun k => ⟨[(1, sR g (y.map qd)), (4, .ref 0 0), (5, .ref 1 0), (9, sR f (x.map qd)), (10, I x.length), (11, I k)], [⟨.own, T_impl_Rat, rdC .s RD.zero⟩, ⟨.own, T_impl_Rat, rdC .s (qd (sumQ (fun i => (x.getD i FQ.bad).mul (y.getD i FQ.bad)) k))⟩]⟩) (fun k => x.length - k) 0 (by omega) ?_ ?_
  · refine StI.ren [some 0, some 1] [[], []] lE (by decide) ?_ lW
    simp -dsimp(disch:=first|exact om|fail)only[go_sem,↓reduceIte,Nat.reduceEqDiff,Nat.reduceAdd,Nat.reduceSub,Nat.reduceMul,Nat.reduceLT,Nat.reduceLeDiff,reduceCtorEq,a_eq,a_neq,a_cast0,a_pred,a_app1,a_zero,Int.reduceToNat]
    exact ⟨rfl, rfl, ⟨rfl, rfl⟩, rfl, rfl⟩
  intro k hk
  by_cases h : k < x.length
  · have hgx : (x.map qd).getD k RD.zero = qd (x.getD k FQ.bad) := getD_map_qd h
    have hgy : (y.map qd).getD k RD.zero = qd (y.getD k FQ.bad) := getD_map_qd (show k < y.length by omega)
    have g1 : (x.getD k FQ.bad).good = true := getD_all gx h
    have g2 : (y.getD k FQ.bad).good = true := getD_all gy (by omega)
    have hs : sumQ (fun i => (x.getD i FQ.bad).mul (y.getD i FQ.bad)) (k + 1) = (sumQ (fun i => (x.getD i FQ.bad).mul (y.getD i FQ.bad)) k).add ((x.getD k FQ.bad).mul (y.getD k FQ.bad)) := rfl
    have stop : (x.getD k FQ.bad).num = 0 ∨ (y.getD k FQ.bad).num = 0 → sumQ (fun i => (x.getD i FQ.bad).mul (y.getD i FQ.bad)) (k + 1) = sumQ (fun i => (x.getD i FQ.bad).mul (y.getD i FQ.bad)) k := fun h => by rw [hs]; exact fq_add0 _ _ (fq_mul0 g1 g2 h)
    generalize hS' : sumQ (fun i => (x.getD i FQ.bad).mul (y.getD i FQ.bad)) (k + 1) = S' at *
    generalize sumQ (fun i => (x.getD i FQ.bad).mul (y.getD i FQ.bad)) k = S at *
    generalize x.getD k FQ.bad = X at *
    generalize y.getD k FQ.bad = Y at *
    simp -dsimp(disch:=first|exact om|fail)only[go_sem,↓reduceIte,Nat.reduceEqDiff,Nat.reduceAdd,Nat.reduceSub,Nat.reduceMul,Nat.reduceLT,Nat.reduceLeDiff,reduceCtorEq,a_eq,a_neq,a_cast0,a_pred,a_app1,a_zero,Int.reduceToNat, hgx, hgy]
    refine callP (l05Nil_c f hf X) lL ?_
    by_cases a1 : X.num = 0
    · simp -dsimp(disch:=first|exact om|fail)only[go_sem,↓reduceIte,Nat.reduceEqDiff,Nat.reduceAdd,Nat.reduceSub,Nat.reduceMul,Nat.reduceLT,Nat.reduceLeDiff,reduceCtorEq,a_eq,a_neq,a_cast0,a_pred,a_app1,a_zero,Int.reduceToNat, a1]
      refine callP (l05Bad_c f hf X) lL ?_
      simp -dsimp(disch:=first|exact om|fail)only[go_sem,↓reduceIte,Nat.reduceEqDiff,Nat.reduceAdd,Nat.reduceSub,Nat.reduceMul,Nat.reduceLT,Nat.reduceLeDiff,reduceCtorEq,a_eq,a_neq,a_cast0,a_pred,a_app1,a_zero,Int.reduceToNat, g1]
      refine ⟨k + 1, by omega, by omega, ?_⟩
      rw [hS', stop (.inl a1)]
      exact StI.ren [some 0, some 1] [[], []] lE (by decide) lW lW
    · simp -dsimp(disch:=first|exact om|fail)only[go_sem,↓reduceIte,Nat.reduceEqDiff,Nat.reduceAdd,Nat.reduceSub,Nat.reduceMul,Nat.reduceLT,Nat.reduceLeDiff,reduceCtorEq,a_eq,a_neq,a_cast0,a_pred,a_app1,a_zero,Int.reduceToNat, a1, hgy]
      refine callP (l05Nil_c g hg Y) lL ?_
      by_cases a2 : Y.num = 0
      · simp -dsimp(disch:=first|exact om|fail)only[go_sem,↓reduceIte,Nat.reduceEqDiff,Nat.reduceAdd,Nat.reduceSub,Nat.reduceMul,Nat.reduceLT,Nat.reduceLeDiff,reduceCtorEq,a_eq,a_neq,a_cast0,a_pred,a_app1,a_zero,Int.reduceToNat, a2, hgy]
        refine callP (l05Bad_c g hg Y) lL ?_
        simp -dsimp(disch:=first|exact om|fail)only[go_sem,↓reduceIte,Nat.reduceEqDiff,Nat.reduceAdd,Nat.reduceSub,Nat.reduceMul,Nat.reduceLT,Nat.reduceLeDiff,reduceCtorEq,a_eq,a_neq,a_cast0,a_pred,a_app1,a_zero,Int.reduceToNat, g2]
        refine ⟨k + 1, by omega, by omega, ?_⟩
        rw [hS', stop (.inr a2)]
        exact StI.ren [some 0, some 1] [[], []] lE (by decide) lW lW
      · simp -dsimp(disch:=first|exact om|fail)only[go_sem,↓reduceIte,Nat.reduceEqDiff,Nat.reduceAdd,Nat.reduceSub,Nat.reduceMul,Nat.reduceLT,Nat.reduceLeDiff,reduceCtorEq,a_eq,a_neq,a_cast0,a_pred,a_app1,a_zero,Int.reduceToNat, a2, hgx, hgy]
        refine callP (l04Mul_c f g hf hg X Y) lL ?_
        simp -dsimp(disch:=first|exact om|fail)only[go_sem,↓reduceIte,Nat.reduceEqDiff,Nat.reduceAdd,Nat.reduceSub,Nat.reduceMul,Nat.reduceLT,Nat.reduceLeDiff,reduceCtorEq,a_eq,a_neq,a_cast0,a_pred,a_app1,a_zero,Int.reduceToNat]
        refine callP (l04Add_c .s .s fls fls S (X.mul Y)) lL ?_
        rw [← hs]
        simp -dsimp(disch:=first|exact om|fail)only[go_sem,↓reduceIte,Nat.reduceEqDiff,Nat.reduceAdd,Nat.reduceSub,Nat.reduceMul,Nat.reduceLT,Nat.reduceLeDiff,reduceCtorEq,a_eq,a_neq,a_cast0,a_pred,a_app1,a_zero,Int.reduceToNat]
        refine ⟨k + 1, by omega, by omega, ?_⟩
        rw [hS']
        exact StI.ren [some 0, some 1] [[], []] lE (by decide) lW lW
  · obtain rfl : k = x.length := by omega
    simp -dsimp(disch:=first|exact om|fail)only[go_sem,↓reduceIte,Nat.reduceEqDiff,Nat.reduceAdd,Nat.reduceSub,Nat.reduceMul,Nat.reduceLT,Nat.reduceLeDiff,reduceCtorEq,a_eq,a_neq,a_cast0,a_pred,a_app1,a_zero,Int.reduceToNat]
abbrev toS (x : FQ) : V := .tup [rV .s (qd x), Bo x.good]
abbrev toO (x : FQ) : V := .tup [rO (qd x), Bo x.good]
theorem toO_bad : toO FQ.bad = .tup [rO RD.zero, Bo false] := by unfold toO; rw [qd_bad]; rfl
end Go.Proofs.Ytpmjjdhnacmphaa
