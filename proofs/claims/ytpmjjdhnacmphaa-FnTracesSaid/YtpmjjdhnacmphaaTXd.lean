/- part of the proof -/
import Derived.Test.YtpmjjdhnacmphaaTXc
import Derived.Test.YtpmjjdhnacmphaaTKb
namespace Go.Proofs.Ytpmjjdhnacmphaa
open Go Go.RowKit
set_option maxRecDepth 100000
set_option maxHeartbeats 4000000
set_option linter.unusedVariables false
set_option linter.unusedSimpArgs false
noncomputable def traceQ (m : MD) : FQ := if (m.ok && decide (m.rows = m.cols)) = true then sumQ (fun i => m.at m.rows.toNat i i) m.rows.toNat else FQ.bad
theorem traceQ_ok {m : MD} {n : Nat} (ho : m.ok = true) (hg : m.Good n n) : traceQ m = sumQ (fun i => m.at n i i) n := by
  unfold traceQ
  rw [ho, decide_eq_true (by rw [hg.er, hg.ec]), if_pos (by rfl), show m.rows.toNat = n by rw [hg.er]; rfl]
theorem traceQ_no {m : MD} (h : (m.ok && decide (m.rows = m.cols)) = false) : traceQ m = FQ.bad := by unfold traceQ; rw [h]; rfl
theorem diagR_qd {m : MD} {n : Nat} (ho : m.ok = true) (hg : m.Good n n) : diagR m = (rowQ n (fun i => m.at n i i)).map qd := by
  rw [diagR_ok ho hg]
  unfold rowQ
  rw [List.map_map]
  exact List.map_congr_left fun i hi => ((MD.at_ok hg (List.mem_range.1 hi) (List.mem_range.1 hi)).2).symm
theorem impl_TraceOf_g (m : MD) (f : Fl) (hf : f ≠ .u) (hs : smallL m.cells) : GC PP F_impl_TraceOf [mtV f m] [] (toO (traceQ m)) (rH (qd (traceQ m))) := by
  cases hk : (m.ok && decide (m.rows = m.cols))
  · obtain ⟨r, c, M, q⟩ := square_no m f hf hk hs
    rw [traceQ_no hk]
    refine txg W_impl_TraceOf ke_impl_TraceOf 0 [] [] [] rfl (by kernel_rfl) ?_
    simp -dsimp(disch:=first|exact om|fail)only[go_sem,↓reduceIte,Nat.reduceEqDiff,Nat.reduceAdd,Nat.reduceSub,Nat.reduceMul,Nat.reduceLT,Nat.reduceLeDiff,reduceCtorEq,a_eq,a_neq,a_cast0,a_pred,a_app1,a_zero,Int.reduceToNat]
    refine callB' q lB lF ?_
    simp -dsimp(disch:=first|exact om|fail)only[go_sem,↓reduceIte,Nat.reduceEqDiff,Nat.reduceAdd,Nat.reduceSub,Nat.reduceMul,Nat.reduceLT,Nat.reduceLeDiff,reduceCtorEq,a_eq,a_neq,a_cast0,a_pred,a_app1,a_zero,Int.reduceToNat]
    exact rtG_noT
  · simp only [Bool.and_eq_true, decide_eq_true_eq] at hk
    obtain ⟨ho, hk⟩ := hk
    obtain ⟨r, c, hg⟩ := MD.ok_good ho
    obtain rfl : r = c := by have := hg.er; have := hg.ec; omega
    have h24 := hg.r24
    have q := square_ok m f hf r hg hs
    rw [traceQ_ok ho hg]
    generalize m.at r = M at *
    refine txg W_impl_TraceOf ke_impl_TraceOf 0 [] [] [] rfl (by kernel_rfl) ?_
    simp -dsimp(disch:=first|exact om|fail)only[go_sem,↓reduceIte,Nat.reduceEqDiff,Nat.reduceAdd,Nat.reduceSub,Nat.reduceMul,Nat.reduceLT,Nat.reduceLeDiff,reduceCtorEq,a_eq,a_neq,a_cast0,a_pred,a_app1,a_zero,Int.reduceToNat]
    refine callB' q lB lF ?_
    simp -dsimp(disch:=first|exact om|fail)only[go_sem,↓reduceIte,Nat.reduceEqDiff,Nat.reduceAdd,Nat.reduceSub,Nat.reduceMul,Nat.reduceLT,Nat.reduceLeDiff,reduceCtorEq,a_eq,a_neq,a_cast0,a_pred,a_app1,a_zero,Int.reduceToNat]
    refine callP (whole_c 0 (by omega)) lL ?_
    simp -dsimp(disch:=first|exact om|fail)only[go_sem,↓reduceIte,Nat.reduceEqDiff,Nat.reduceAdd,Nat.reduceSub,Nat.reduceMul,Nat.reduceLT,Nat.reduceLeDiff,reduceCtorEq,a_eq,a_neq,a_cast0,a_pred,a_app1,a_zero,Int.reduceToNat]
    refine loopJ (fun k : Nat => k ≤ r) (fun k => ⟨[(2, .ref 0 0), (4, .ref 1 0), (6, pQ .s (sumQ (fun i => M i i) k)), (18, I r), (19, I k)], [⟨.own, T_impl_Rat, [.lit (.bool false), .emp, .emp]⟩, ⟨.own, T_impl_grid, [I r, I r, .sl .b 1 r (gC .b .b r r M)]⟩]⟩) (fun k => r - k) 0 (by omega) ?_ ?_
    · exact StI.ren [some 1, some 2] [[], []] lE (by decide) lW (by simp -dsimp(disch:=first|exact om|fail)only[go_sem,↓reduceIte,Nat.reduceEqDiff,Nat.reduceAdd,Nat.reduceSub,Nat.reduceMul,Nat.reduceLT,Nat.reduceLeDiff,reduceCtorEq,a_eq,a_neq,a_cast0,a_pred,a_app1,a_zero,Int.reduceToNat]; exact of_eq_true rn_pQs)
    intro k hk
    by_cases h : k < r
    · have hs : sumQ (fun i => M i i) (k + 1) = (sumQ (fun i => M i i) k).add (M k k) := rfl
      generalize hS' : sumQ (fun i => M i i) (k + 1) = S' at *
      generalize sumQ (fun i => M i i) k = S at *
      simp -dsimp(disch:=first|exact om|fail)only[go_sem,↓reduceIte,Nat.reduceEqDiff,Nat.reduceAdd,Nat.reduceSub,Nat.reduceMul,Nat.reduceLT,Nat.reduceLeDiff,reduceCtorEq,a_eq,a_neq,a_cast0,a_pred,a_app1,a_zero,Int.reduceToNat]
      refine callP (add_c .s .b fls flb S (M k k)) lL ?_
      rw [← hs]
      simp -dsimp(disch:=first|exact om|fail)only[go_sem,↓reduceIte,Nat.reduceEqDiff,Nat.reduceAdd,Nat.reduceSub,Nat.reduceMul,Nat.reduceLT,Nat.reduceLeDiff,reduceCtorEq,a_eq,a_neq,a_cast0,a_pred,a_app1,a_zero,Int.reduceToNat]
      refine ⟨k + 1, by omega, by omega, ?_⟩
      rw [hS']
      exact StI.ren [some 0, some 1] [[], []] lE (by decide) lW lW
    · obtain rfl : k = r := by omega
      generalize sumQ (fun i => M i i) k = S at *
      simp -dsimp(disch:=first|exact om|fail)only[go_sem,↓reduceIte,Nat.reduceEqDiff,Nat.reduceAdd,Nat.reduceSub,Nat.reduceMul,Nat.reduceLT,Nat.reduceLeDiff,reduceCtorEq,a_eq,a_neq,a_cast0,a_pred,a_app1,a_zero,Int.reduceToNat]
      refine callO' (told_g .s fls S) lL lF ?_
      simp -dsimp(disch:=first|exact om|fail)only[go_sem,↓reduceIte,Nat.reduceEqDiff,Nat.reduceAdd,Nat.reduceSub,Nat.reduceMul,Nat.reduceLT,Nat.reduceLeDiff,reduceCtorEq,a_eq,a_neq,a_cast0,a_pred,a_app1,a_zero,Int.reduceToNat]
      exact RtG.nothing [some 2, some 3] lE (by decide) lS lE
theorem gridL_getD {n c : Nat} {M : Nat → Nat → FQ} {i k : Nat} (hi : i < n) (hk : k < c) : (gridL n c M).getD (i * c + k) FQ.bad = M i k := by
  induction n with
  | zero => omega
  | succ n ih =>
    rw [gridL_succ, List.getD_eq_getElem?_getD]
    rcases Nat.lt_or_eq_of_le (Nat.le_of_lt_succ hi) with h | rfl
    · rw [List.getElem?_append_left (by rw [gridL_length]; exact ix_lt h hk), ← List.getD_eq_getElem?_getD]
      exact ih h
    · rw [List.getElem?_append_right (by rw [gridL_length]; omega), gridL_length, Nat.add_sub_cancel_left, ← List.getD_eq_getElem?_getD]
      exact rowQ_get hk
theorem gridL_ext {n c : Nat} {M : Nat → Nat → FQ} {l : List FQ} (hl : l.length = n * c) (h : ∀ i k, i < n → k < c → l.getD (i * c + k) FQ.bad = M i k) : l = gridL n c M := by
  refine List.ext_getElem (by rw [hl, gridL_length]) fun p h1 h2 => ?_
  have hc : 0 < c := by
    rcases Nat.eq_zero_or_pos c with rfl | h
    · rw [hl, Nat.mul_zero] at h1; omega
    · exact h
  have hp : p / c < n := Nat.div_lt_of_lt_mul (by rw [Nat.mul_comm, ← hl]; exact h1)
  have e : p = p / c * c + p % c := by rw [Nat.mul_comm]; exact (Nat.div_add_mod p c).symm
  have q1 := h (p / c) (p % c) hp (Nat.mod_lt _ hc)
  have q2 := gridL_getD (M := M) hp (Nat.mod_lt p hc)
  rw [← e] at q1 q2
  rw [List.getD_eq_getElem?_getD, List.getElem?_eq_getElem h1, Option.getD_some] at q1
  rw [List.getD_eq_getElem?_getD, List.getElem?_eq_getElem h2, Option.getD_some] at q2
  rw [q1, q2]
end Go.Proofs.Ytpmjjdhnacmphaa
