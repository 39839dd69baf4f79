/- part of the proof -/
import Derived.Test.YtchlpclgkhggeaaTUj
import Derived.Test.YtchlpclgkhggeaaTTr
import Derived.Test.YtchlpclgkhggeaaTTq
import Derived.Test.YtchlpclgkhggeaaTWd
namespace Go.Proofs.Ytchlpclgkhggeaa
open Go Go.RowKit
set_option maxRecDepth 100000
set_option maxHeartbeats 4000000
set_option linter.unusedVariables false
set_option linter.unusedSimpArgs false
theorem iC_tb' {l : List Int} : V.tbL (iC l) = iC l := by
  induction l with
  | nil => rfl
  | cons a l ih =>
    show V.tb (I a) :: V.tbL (iC l) = I a :: iC l
    rw [ih]; rfl
theorem iC_only' {l : List Int} : V.onlySL (iC l) := by
  induction l with
  | nil => trivial
  | cons a l ih => exact ⟨trivial, ih⟩
theorem pQ_tb' {x : FQ} : (pQ .s x).tb = pQ .b x := by
  obtain ⟨x, hx⟩ := x
  cases x with
  | none => rfl
  | some r =>
    show V.ptr .b [Bo _, .sl .b 1 _ (V.tbL (iC _)), .sl .b 1 _ (V.tbL (iC _))] = _
    rw [iC_tb', iC_tb']; rfl
theorem pQ_only' {x : FQ} : (pQ .s x).onlyS := by
  obtain ⟨x, hx⟩ := x
  cases x with
  | none => trivial
  | some r => exact ⟨trivial, iC_only', iC_only', trivial⟩
theorem neg_bb (x : FQ) : PB PP F_impl_neg [pQ .b x] (pQ .b x.neg) [] := by
  have q := (neg_s x).lent ⟨pQ_only', trivial⟩ pQ_only' (by intro ob hob; cases hob)
  rw [show V.tbL [pQ .s x] = [pQ .b x] by show [(pQ .s x).tb] = _; rw [pQ_tb'], pQ_tb'] at q
  exact q
theorem impl_RatNeg_g (f : Fl) (hf : f ≠ .u) (r : RD) (hr : r.small) : GC PP F_impl_RatNeg [rV f r] [] (rO (qd (rdq r).neg)) (rH (qd (rdq r).neg)) := by
  refine txg W_impl_RatNeg ke_impl_RatNeg 0 [] [] [] rfl (by kernel_rfl) ?_
  simp -dsimp(disch:=first|exact om|fail)only[go_sem,↓reduceIte,Nat.reduceEqDiff,Nat.reduceAdd,Nat.reduceSub,Nat.reduceMul,Nat.reduceLT,Nat.reduceLeDiff,reduceCtorEq,a_eq,a_neq,a_cast0,a_pred,a_app1,a_zero,Int.reduceToNat]
  refine callB' (load_b f hf r hr) lB lF ?_
  simp -dsimp(disch:=first|exact om|fail)only[go_sem,↓reduceIte,Nat.reduceEqDiff,Nat.reduceAdd,Nat.reduceSub,Nat.reduceMul,Nat.reduceLT,Nat.reduceLeDiff,reduceCtorEq,a_eq,a_neq,a_cast0,a_pred,a_app1,a_zero,Int.reduceToNat]
  refine callB' (neg_bb (rdq r)) (by intro v hv; simp only [List.mem_cons, List.not_mem_nil, or_false] at hv; subst hv; exact of_eq_true fl2_pQ) lF ?_
  simp -dsimp(disch:=first|exact om|fail)only[go_sem,↓reduceIte,Nat.reduceEqDiff,Nat.reduceAdd,Nat.reduceSub,Nat.reduceMul,Nat.reduceLT,Nat.reduceLeDiff,reduceCtorEq,a_eq,a_neq,a_cast0,a_pred,a_app1,a_zero,Int.reduceToNat]
  refine callO' (store_g .b flb (rdq r).neg) lL lF ?_
  simp -dsimp(disch:=first|exact om|fail)only[go_sem,↓reduceIte,Nat.reduceEqDiff,Nat.reduceAdd,Nat.reduceSub,Nat.reduceMul,Nat.reduceLT,Nat.reduceLeDiff,reduceCtorEq,a_eq,a_neq,a_cast0,a_pred,a_app1,a_zero,Int.reduceToNat]
  exact RtG.nothing [some 2, some 3] lE (by decide) lS lE
theorem le_ownI1 {H : List Ob} {id n : Nat} {ty : TypeId} {l : List Int} (h : H[id]? = some ⟨.own, ty, iC l⟩) (hn : l.length = n) : Le H .b (.rsl id 1 0 n) (sI .b l) := by
  subst hn
  have hl : (iC l).length = l.length := by simp [iC]
  refine Le.rsl id 1 0 l.length _ _ h (.inl rfl) (by show 0 * 1 + l.length * 1 ≤ (iC l).length; rw [hl]; omega) ?_
  show LeL H .b (((iC l).drop (0 * 1)).take (l.length * 1)) (iC l)
  rw [Nat.zero_mul, List.drop_zero, Nat.mul_one, List.take_of_length_le (by omega)]
  exact LeL.lits
theorem negW_set {l : List Int} {k : Nat} (h : k < l.length) : ((negW l).take k ++ zerosL (l.length - k)).set k (IntKind.wrap .i64 (-l.getD k 0)) = (negW l).take (k + 1) ++ zerosL (l.length - (k + 1)) := by
  have h1 : ((negW l).take k).length = k := by rw [List.length_take, negW_length]; omega
  rw [List.set_append_right _ _ (by omega), h1, Nat.sub_self, negW_push h, List.append_assoc, show l.length - k = (l.length - (k + 1)) + 1 by omega]
  rfl
def wf64 (l : List Int) : Prop := ∀ n ∈ l, -9223372036854775808 ≤ n ∧ n ≤ 9223372036854775807
theorem wrap_min : IntKind.wrap .i64 (9223372036854775808 : Int) = -9223372036854775808 := by decide
theorem inB_negW : ∀ {l : List Int}, wf64 l → inB (-100) 100 (negW l) = inB (-100) 100 l
  | [], _ => rfl
  | n :: l, h => by
    have h1 := h n (by simp)
    have ih := inB_negW (l := l) fun m hm => h m (by simp [hm])
    have e : ∀ (m : Int) (L : List Int), inB (-100) 100 (m :: L) = (decide (-100 ≤ m ∧ m ≤ 100) && inB (-100) 100 L) := fun m L => rfl
    rw [show negW (n :: l) = IntKind.wrap .i64 (-n) :: negW l from rfl, e, e, ih]
    congr 1
    by_cases q : n = -9223372036854775808
    · rw [q, show -(-9223372036854775808 : Int) = 9223372036854775808 from rfl, wrap_min]
    · rw [w64 (by omega)]
      exact decide_eq_decide.2 (by omega)
theorem okP_least {p : Prg} (h : wf64 p.c) : okP' (leastP p) = okP' p := by
  show (decide (0 ≤ p.rows ∧ p.rows ≤ 20) && (decide (0 ≤ p.cols ∧ p.cols ≤ 40) && (decide ((p.a.length : Int) = p.rows * p.cols) && (decide ((p.b.length : Int) = p.rows) && (decide (((negW p.c).length : Int) = p.cols) && (inB (-100) 100 p.a && (inB (-100) 100 p.b && inB (-100) 100 (negW p.c)))))))) = _
  rw [negW_length, inB_negW h]; rfl
theorem solP_W (p : Prg) : (solP p).small ∧ (szL (solP p).x ≤ 100000 ∧ (solP p).sz ≤ 100100) := by
  have hz : RD.zero = qd FQ.bad := qd_bad.symm
  have key : ∀ (k : Int) (l : List FQ) (v : FQ), l.length ≤ 1000 → (QD.mk k (l.map qd) (qd v)).small ∧ (szL (l.map qd) ≤ 100000 ∧ (QD.mk k (l.map qd) (qd v)).sz ≤ 100100) := fun k l v hl => by
    obtain ⟨a1, a2⟩ := qdl_small hl
    have a3 := qd_sz v
    exact ⟨⟨a1, qd_small v⟩, a2, by show szL (l.map qd) + (qd v).sz ≤ _; omega⟩
  unfold solP
  by_cases ho : okP' p = true
  · rw [if_pos ho]
    obtain ⟨_, ⟨c1, c2⟩, _⟩ := okP_spec ho
    unfold lpR
    refine key _ _ _ ?_
    rcases lpOf_cases p.lp with ⟨y, _, e⟩ | ⟨_, _, e⟩ | ⟨_, e⟩
    · rw [e, List.length_map, List.length_range]
      show p.cols.toNat ≤ 1000
      omega
    · rw [e]; exact Nat.zero_le _
    · rw [e]; exact Nat.zero_le _
  · rw [if_neg ho, hz]
    exact key 1 [] FQ.bad (Nat.zero_le _)
theorem solP_small (p : Prg) : (solP p).small := (solP_W p).1
theorem impl_LeastOf_g (f : Fl) (hf : f ≠ .u) (p : Prg) (hp : p.small) (hw : wf64 p.c) : GC PP F_impl_LeastOf [pV f p] [] (reG (leastQ (solP (leastP p)))) (reH (leastQ (solP (leastP p)))) := by
  have q0 := impl_ProgramOk_c f hf p hp
  obtain ⟨h1, h2, h3⟩ := hp
  have q1 := impl_SolveProgram_g .b flb (leastP p) ⟨h1, h2, by show (negW p.c).length ≤ _; rw [negW_length]; exact h3⟩
  have hol := okP_least hw
  have hsm := solP_small (leastP p)
  cases ho : okP' p
  · rw [ho] at q0 hol
    rw [show solP (leastP p) = ⟨1, [], RD.zero⟩ by unfold solP; rw [hol]; rfl, show leastQ ⟨1, [], RD.zero⟩ = ⟨1, [], RD.zero⟩ from if_neg (by decide)]
    refine txg W_impl_LeastOf ke_impl_LeastOf 0 [] [] [] rfl (by kernel_rfl) ?_
    simp -dsimp(disch:=first|exact om|fail)only[go_sem,↓reduceIte,Nat.reduceEqDiff,Nat.reduceAdd,Nat.reduceSub,Nat.reduceMul,Nat.reduceLT,Nat.reduceLeDiff,reduceCtorEq,a_eq,a_neq,a_cast0,a_pred,a_app1,a_zero,Int.reduceToNat, pC]
    refine callP q0 (by simp -dsimp(disch:=first|exact om|fail)only[go_sem,↓reduceIte,Nat.reduceEqDiff,Nat.reduceAdd,Nat.reduceSub,Nat.reduceMul,Nat.reduceLT,Nat.reduceLeDiff,reduceCtorEq,a_eq,a_neq,a_cast0,a_pred,a_app1,a_zero,Int.reduceToNat, pC]) ?_
    simp -dsimp(disch:=first|exact om|fail)only[go_sem,↓reduceIte,Nat.reduceEqDiff,Nat.reduceAdd,Nat.reduceSub,Nat.reduceMul,Nat.reduceLT,Nat.reduceLeDiff,reduceCtorEq,a_eq,a_neq,a_cast0,a_pred,a_app1,a_zero,Int.reduceToNat]
    exact rtG_noR
  · rw [ho] at q0
    obtain ⟨v, hv⟩ := solP_val (leastP p)
    have hW := fun k (h : k < p.c.length) => negW_set h
    have hWl : (negW p.c).length = p.c.length := negW_length
    have hz : (negW p.c).take 0 ++ zerosL (p.c.length - 0) = List.replicate p.c.length 0 := by simp [zerosL]
    simp only [pV, pC, leastP] at q1
    have e0 : solP ⟨p.rows, p.cols, p.a, p.b, negW p.c⟩ = solP (leastP p) := rfl
    rw [e0] at q1
    generalize solP (leastP p) = S at *
    obtain ⟨code, x, val⟩ := S
    simp only at hv
    subst hv
    generalize negW p.c = W at *
    refine txg W_impl_LeastOf ke_impl_LeastOf 0 [] [] [] rfl (by kernel_rfl) ?_
    simp -dsimp(disch:=first|exact om|fail)only[go_sem,↓reduceIte,Nat.reduceEqDiff,Nat.reduceAdd,Nat.reduceSub,Nat.reduceMul,Nat.reduceLT,Nat.reduceLeDiff,reduceCtorEq,a_eq,a_neq,a_cast0,a_pred,a_app1,a_zero,Int.reduceToNat, pC]
    refine callP q0 (by simp -dsimp(disch:=first|exact om|fail)only[go_sem,↓reduceIte,Nat.reduceEqDiff,Nat.reduceAdd,Nat.reduceSub,Nat.reduceMul,Nat.reduceLT,Nat.reduceLeDiff,reduceCtorEq,a_eq,a_neq,a_cast0,a_pred,a_app1,a_zero,Int.reduceToNat, pC]) ?_
    simp -dsimp(disch:=first|exact om|fail)only[go_sem,↓reduceIte,Nat.reduceEqDiff,Nat.reduceAdd,Nat.reduceSub,Nat.reduceMul,Nat.reduceLT,Nat.reduceLeDiff,reduceCtorEq,a_eq,a_neq,a_cast0,a_pred,a_app1,a_zero,Int.reduceToNat]
    refine loopJ (fun k : Nat => k ≤ p.c.length) (fun k => ⟨[(1, .ref 0 0), (2, .ref 1 0), (3, .ref 2 0), (18, sI f p.c), (19, I p.c.length), (20, I k)], [⟨.own, T_impl_Program, [I p.rows, I p.cols, sI f p.a, sI f p.b, sI f p.c]⟩, ⟨.own, T_impl_Result, [I 0, .emp, Bo false, .emp, .emp]⟩, ⟨.own, T_impl_Program, [I p.rows, I p.cols, sI f p.a, sI f p.b, .rsl 3 1 0 p.c.length]⟩, ⟨.own, T_int, iC (W.take k ++ zerosL (p.c.length - k))⟩]⟩) (fun k => p.c.length - k) 0 (by omega) ?_ ?_
    · rw [hz]
      refine StI.ren [some 0, some 1, some 2, some 3] [[], [], [], []] lE (by decide) ?_ lW
      simp -dsimp(disch:=first|exact om|fail)only[go_sem,↓reduceIte,Nat.reduceEqDiff,Nat.reduceAdd,Nat.reduceSub,Nat.reduceMul,Nat.reduceLT,Nat.reduceLeDiff,reduceCtorEq,a_eq,a_neq,a_cast0,a_pred,a_app1,a_zero,Int.reduceToNat]
    intro k hk
    by_cases h : k < p.c.length
    · have hw := hW k h
      have hlt : (W.take k ++ zerosL (p.c.length - k)).length = p.c.length := by rw [List.length_append, List.length_take, zerosL_length]; omega
      simp -dsimp(disch:=first|exact om|fail)only[go_sem,↓reduceIte,Nat.reduceEqDiff,Nat.reduceAdd,Nat.reduceSub,Nat.reduceMul,Nat.reduceLT,Nat.reduceLeDiff,reduceCtorEq,a_eq,a_neq,a_cast0,a_pred,a_app1,a_zero,Int.reduceToNat, hlt]
      rw [hw]
      exact ⟨k + 1, by omega, by omega, StI.ren [some 0, some 1, some 2, some 3] [[], [], [], []] lE (by decide) lW lW⟩
    · obtain rfl : k = p.c.length := by omega
      rw [show W.take p.c.length ++ zerosL (p.c.length - p.c.length) = W by rw [← hWl, List.take_length, Nat.sub_self]; simp [zerosL]]
      simp -dsimp(disch:=first|exact om|fail)only[go_sem,↓reduceIte,Nat.reduceEqDiff,Nat.reduceAdd,Nat.reduceSub,Nat.reduceMul,Nat.reduceLT,Nat.reduceLeDiff,reduceCtorEq,a_eq,a_neq,a_cast0,a_pred,a_app1,a_zero,Int.reduceToNat]
      refine callO' q1 ?_ lF ?_
      · refine .cons _ _ _ _ (.agg _ _ (.cons _ _ _ _ (.lit _) (.cons _ _ _ _ (.lit _) (.cons _ _ _ _ ?_ (.cons _ _ _ _ ?_ (.cons _ _ _ _ (le_ownI1 rfl hWl) .nil)))))) .nil
        · simp -dsimp(disch:=first|exact om|fail)only[go_sem,↓reduceIte,Nat.reduceEqDiff,Nat.reduceAdd,Nat.reduceSub,Nat.reduceMul,Nat.reduceLT,Nat.reduceLeDiff,reduceCtorEq,a_eq,a_neq,a_cast0,a_pred,a_app1,a_zero,Int.reduceToNat]
        · simp -dsimp(disch:=first|exact om|fail)only[go_sem,↓reduceIte,Nat.reduceEqDiff,Nat.reduceAdd,Nat.reduceSub,Nat.reduceMul,Nat.reduceLT,Nat.reduceLeDiff,reduceCtorEq,a_eq,a_neq,a_cast0,a_pred,a_app1,a_zero,Int.reduceToNat]
      obtain ⟨hx, hvs⟩ := hsm
      simp only at hx hvs
      by_cases e : code = 0
      · rw [show leastQ ⟨code, x, qd v⟩ = ⟨code, x, qd v.neg⟩ by unfold leastQ; rw [if_pos e, rdq_qd]]
        have q2 := impl_RatNeg_g .b flb (qd v) hvs
        rw [rdq_qd] at q2
        simp -dsimp(disch:=first|exact om|fail)only[go_sem,↓reduceIte,Nat.reduceEqDiff,Nat.reduceAdd,Nat.reduceSub,Nat.reduceMul,Nat.reduceLT,Nat.reduceLeDiff,reduceCtorEq,a_eq,a_neq,a_cast0,a_pred,a_app1,a_zero,Int.reduceToNat, e]
        refine callO' q2 lL lF ?_
        simp -dsimp(disch:=first|exact om|fail)only[go_sem,↓reduceIte,Nat.reduceEqDiff,Nat.reduceAdd,Nat.reduceSub,Nat.reduceMul,Nat.reduceLT,Nat.reduceLeDiff,reduceCtorEq,a_eq,a_neq,a_cast0,a_pred,a_app1,a_zero,Int.reduceToNat]
        exact RtG.nothing [some 4, some 8, some 9] lE (by decide) (by simp -dsimp(disch:=first|exact om|fail)only[go_sem,↓reduceIte,Nat.reduceEqDiff,Nat.reduceAdd,Nat.reduceSub,Nat.reduceMul,Nat.reduceLT,Nat.reduceLeDiff,reduceCtorEq,a_eq,a_neq,a_cast0,a_pred,a_app1,a_zero,Int.reduceToNat, List.map_cons, List.map_nil]) lW
      · rw [show leastQ ⟨code, x, qd v⟩ = ⟨code, x, qd v⟩ by unfold leastQ; rw [if_neg e]]
        simp -dsimp(disch:=first|exact om|fail)only[go_sem,↓reduceIte,Nat.reduceEqDiff,Nat.reduceAdd,Nat.reduceSub,Nat.reduceMul,Nat.reduceLT,Nat.reduceLeDiff,reduceCtorEq,a_eq,a_neq,a_cast0,a_pred,a_app1,a_zero,Int.reduceToNat, e]
        exact RtG.nothing [some 4, some 5, some 6] lE (by decide) (by simp -dsimp(disch:=first|exact om|fail)only[go_sem,↓reduceIte,Nat.reduceEqDiff,Nat.reduceAdd,Nat.reduceSub,Nat.reduceMul,Nat.reduceLT,Nat.reduceLeDiff,reduceCtorEq,a_eq,a_neq,a_cast0,a_pred,a_app1,a_zero,Int.reduceToNat, List.map_cons, List.map_nil]) lW
end Go.Proofs.Ytchlpclgkhggeaa
