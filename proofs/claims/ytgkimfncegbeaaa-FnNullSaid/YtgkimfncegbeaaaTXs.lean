/- part of the proof -/
import Derived.Test.YtgkimfncegbeaaaTXr
namespace Go.Proofs.Ytgkimfncegbeaaa
open Go Go.RowKit
set_option maxRecDepth 100000
set_option maxHeartbeats 4000000
set_option linter.unusedVariables false
set_option linter.unusedSimpArgs false
theorem iC_tb {l : List Int} : V.tbL (iC l) = iC l := by
  induction l with
  | nil => rfl
  | cons a l ih =>
    show V.tb (I a) :: V.tbL (iC l) = I a :: iC l
    rw [ih]; rfl
theorem iC_only {l : List Int} : V.onlySL (iC l) := by
  induction l with
  | nil => trivial
  | cons a l ih => exact ⟨trivial, ih⟩
theorem pQ_tb {x : FQ} : (pQ .s x).tb = pQ .b x := by
  obtain ⟨x, hx⟩ := x
  cases x with
  | none => rfl
  | some r =>
    show V.ptr .b [Bo _, .sl .b 1 _ (V.tbL (iC _)), .sl .b 1 _ (V.tbL (iC _))] = _
    rw [iC_tb, iC_tb]; rfl
theorem pQ_only {x : FQ} : (pQ .s x).onlyS := by
  obtain ⟨x, hx⟩ := x
  cases x with
  | none => trivial
  | some r => exact ⟨trivial, iC_only, iC_only, trivial⟩
theorem qs_tb {l : List FQ} : V.tbL (qs .s l) = qs .b l := by
  induction l with
  | nil => rfl
  | cons x l ih =>
    show (pQ .s x).tb :: V.tbL (qs .s l) = pQ .b x :: qs .b l
    rw [pQ_tb, ih]
theorem qs_only {l : List FQ} : V.onlySL (qs .s l) := by
  induction l with
  | nil => trivial
  | cons x l ih => exact ⟨pQ_only, ih⟩
theorem tbL_app {a b : List V} : V.tbL (a ++ b) = V.tbL a ++ V.tbL b := by
  induction a with
  | nil => rfl
  | cons x a ih => show V.tb x :: V.tbL (a ++ b) = V.tb x :: (V.tbL a ++ V.tbL b); rw [ih]
theorem onlySL_app {a b : List V} (ha : V.onlySL a) (hb : V.onlySL b) : V.onlySL (a ++ b) := by
  induction a with
  | nil => exact hb
  | cons x a ih => exact ⟨ha.1, ih ha.2⟩
theorem gC_tb {n c : Nat} {M : Nat → Nat → FQ} : V.tbL (gC .s .s n c M) = gC .b .b n c M := by
  induction n with
  | zero => rfl
  | succ n ih =>
    rw [gC_succ, gC_succ, tbL_app, ih]
    show _ ++ [V.sl .b 1 c (V.tbL (qs .s (rowQ c (M n))))] = _
    rw [qs_tb]
theorem gC_only {n c : Nat} {M : Nat → Nat → FQ} : V.onlySL (gC .s .s n c M) := by
  induction n with
  | zero => trivial
  | succ n ih => rw [gC_succ]; exact onlySL_app ih ⟨qs_only, trivial⟩
theorem reduce_b (n c : Nat) (hn : n ≤ 24) (hc : c ≤ 64) (M : Nat → Nat → FQ) (hg : ∀ i j, i < n → j < c → (M i j).good = true) :
    PB PP F_impl_grid_reduce [gV .b n c M] (match redTo n c M c with
      | some st => .tup [.agg [I n, I c, .sl .b 1 n (gC .b .b n c st.M), .rsl 0 1 0 st.piv.length, pQ .b st.det], Bo true]
      | none => .tup [.agg [I 0, I 0, .emp, .emp, .lit (.pointer none)], Bo false]) (redB (redTo n c M c)) := by
  have q := (reduce_g n c hn hc M hg).pc
  cases h : redTo n c M c with
  | none =>
    rw [h] at q
    have q2 := q.lent ⟨⟨trivial, trivial, gC_only, trivial⟩, trivial⟩ ⟨⟨trivial, trivial, trivial, trivial, trivial, trivial⟩, trivial, trivial⟩ (by intro ob hob; cases hob)
    rw [show V.tbL [gV .s n c M] = [gV .b n c M] by show [V.agg [I n, I c, .sl .b 1 n (V.tbL (gC .s .s n c M))]] = _; rw [gC_tb]] at q2
    exact q2
  | some st =>
    rw [h] at q
    have q2 := q.lent ⟨⟨trivial, trivial, gC_only, trivial⟩, trivial⟩ ⟨⟨trivial, trivial, gC_only, trivial, pQ_only, trivial⟩, trivial, trivial⟩ (by
      intro ob hob
      simp only [redB, List.mem_cons, List.not_mem_nil, or_false] at hob
      subst hob
      exact ⟨rfl, iC_only⟩)
    rw [show V.tbL [gV .s n c M] = [gV .b n c M] by show [V.agg [I n, I c, .sl .b 1 n (V.tbL (gC .s .s n c M))]] = _; rw [gC_tb]] at q2
    have e1 : (redV n c (some st)).tb = .tup [.agg [I n, I c, .sl .b 1 n (gC .b .b n c st.M), .rsl 0 1 0 st.piv.length, pQ .b st.det], Bo true] := by
      show V.tup [.agg [I n, I c, .sl .b 1 n (V.tbL (gC .s .s n c st.M)), .rsl 0 1 0 st.piv.length, (pQ .s st.det).tb], Bo true] = _
      rw [gC_tb, pQ_tb]
    have e2 : (redB (some st)).map (fun ob => { ob with cs := V.tbL ob.cs }) = redB (some st) := by
      show [(⟨.own, T_int, V.tbL (iC st.piv)⟩ : Ob)] = _
      rw [iC_tb]; rfl
    rw [e1, e2] at q2
    exact q2
theorem mo_share (p : MD × Bool) : RtG 0 (mtH p.1) (moG p) (moS p) [] := RtG.share 0 (cs' := rsC .s p.1.cells) rfl lW leL_us lW (RtG.nothing [] trivial (by decide) lW (.tup _ _ _ _ _ (.cons _ _ _ _ _ _ [] [] (.agg _ _ _ _ _ (.cons _ _ _ _ _ _ [] [] (.same _ _ _ trivial (fun _ => trivial)) (.cons _ _ _ _ _ _ [] [] (.same _ _ _ trivial (fun _ => trivial)) (.cons _ _ _ _ _ _ [] [] (Rn.rslR rfl rfl) (.nil _ _))))) (.cons _ _ _ _ _ _ [] [] (.same _ _ _ trivial (fun _ => trivial)) (.nil _ _)))))
theorem closed_c (n c : Nat) (hn : n ≤ 24) (hc : c ≤ 24) (f : Fl) (hf : f ≠ .u) (M : Nat → Nat → FQ) : PC PP F_impl_grid_closed [gV f n c M] (moS (cloQ n c M)) [] := ((closed_g n c hn hc f hf M).conv (mo_share _)).pc
theorem impl_Reduce_c (m : MD) (f : Fl) (hf : f ≠ .u) (hs : smallL m.cells) : PC PP F_impl_Reduce [mtV f m] (rdS (redR m)) [] := by
  refine txe W_impl_Reduce ke_impl_Reduce [(8, [3])] [] [] (by kernel_rfl) ?_
  simp -dsimp(disch:=first|exact om|fail)only[go_sem,↓reduceIte,Nat.reduceEqDiff,Nat.reduceAdd,Nat.reduceSub,Nat.reduceMul,Nat.reduceLT,Nat.reduceLeDiff,reduceCtorEq,a_eq,a_neq,a_cast0,a_pred,a_app1,a_zero,Int.reduceToNat]
  cases ho : m.ok
  · rw [show redR m = noRd by unfold redR; rw [ho]; rfl]
    refine callB' (open_no m f hf ho hs) lB lF ?_
    unfold noRd
    simp -dsimp(disch:=first|exact om|fail)only[go_sem,↓reduceIte,Nat.reduceEqDiff,Nat.reduceAdd,Nat.reduceSub,Nat.reduceMul,Nat.reduceLT,Nat.reduceLeDiff,reduceCtorEq,a_eq,a_neq,a_cast0,a_pred,a_app1,a_zero,Int.reduceToNat]
  · obtain ⟨r, c, hg⟩ := MD.ok_good ho
    rw [redR_ok ho hg]
    have h24 := hg.r24
    have hc24 := hg.c24
    have hgd : ∀ i j, i < r → j < c → (m.at c i j).good = true := fun i j hi hj => (MD.at_ok hg hi hj).1
    have q := reduce_b r c h24 (by omega) (m.at c) hgd
    refine callB' (open_ok m f hf r c hg hs) lB lF ?_
    simp -dsimp(disch:=first|exact om|fail)only[go_sem,↓reduceIte,Nat.reduceEqDiff,Nat.reduceAdd,Nat.reduceSub,Nat.reduceMul,Nat.reduceLT,Nat.reduceLeDiff,reduceCtorEq,a_eq,a_neq,a_cast0,a_pred,a_app1,a_zero,Int.reduceToNat]
    unfold redQ
    rcases to_same hgd (Nat.le_refl c) with ⟨a, e, hS⟩ | ⟨e, h1, h2⟩
    · rw [e] at q
      have hcl : gridL r c (refTo r c (m.at c) c).M = gridL r c a.M := gridL_congr fun i j hi hj => (hS.m i j hi hj).symm
      have hal : allG (gridL r c a.M) = true := gridL_all fun i j hi hj => hS.good i j hi hj
      rw [hcl, if_pos hal, ← hS.piv]
      have qc := closed_c r c h24 hc24 .b flb a.M
      rw [cloQ_done, doneM, if_pos hal] at qc
      replace q : PB PP F_impl_grid_reduce [gV .b r c (m.at c)] (.tup [.agg [I r, I c, .sl .b 1 r (gC .b .b r c a.M), .rsl 0 1 0 a.piv.length, pQ .b a.det], Bo true]) [⟨.own, T_int, iC a.piv⟩] := q
      refine callB' q lB lF ?_
      simp -dsimp(disch:=first|exact om|fail)only[go_sem,↓reduceIte,Nat.reduceEqDiff,Nat.reduceAdd,Nat.reduceSub,Nat.reduceMul,Nat.reduceLT,Nat.reduceLeDiff,reduceCtorEq,a_eq,a_neq,a_cast0,a_pred,a_app1,a_zero,Int.reduceToNat]
      refine callP qc lL ?_
      simp -dsimp(disch:=first|exact om|fail)only[go_sem,↓reduceIte,Nat.reduceEqDiff,Nat.reduceAdd,Nat.reduceSub,Nat.reduceMul,Nat.reduceLT,Nat.reduceLeDiff,reduceCtorEq,a_eq,a_neq,a_cast0,a_pred,a_app1,a_zero,Int.reduceToNat]
    · rw [e] at q
      rw [h2, if_neg (by decide)]
      unfold noRd
      replace q : PB PP F_impl_grid_reduce [gV .b r c (m.at c)] (.tup [.agg [I 0, I 0, .emp, .emp, .lit (.pointer none)], Bo false]) [] := q
      refine callB' q lB lF ?_
      simp -dsimp(disch:=first|exact om|fail)only[go_sem,↓reduceIte,Nat.reduceEqDiff,Nat.reduceAdd,Nat.reduceSub,Nat.reduceMul,Nat.reduceLT,Nat.reduceLeDiff,reduceCtorEq,a_eq,a_neq,a_cast0,a_pred,a_app1,a_zero,Int.reduceToNat]
theorem impl_RankOf_c (m : MD) (f : Fl) (hf : f ≠ .u) (hs : smallL m.cells) : PC PP F_impl_RankOf [mtV f m] (I (if (redR m).2.2 = true then ((redR m).2.1.length : Int) else -1)) [] := by
  refine tx W_impl_RankOf ke_impl_RankOf [] (by kernel_rfl) ?_
  simp -dsimp(disch:=first|exact om|fail)only[go_sem,↓reduceIte,Nat.reduceEqDiff,Nat.reduceAdd,Nat.reduceSub,Nat.reduceMul,Nat.reduceLT,Nat.reduceLeDiff,reduceCtorEq,a_eq,a_neq,a_cast0,a_pred,a_app1,a_zero,Int.reduceToNat]
  have q := impl_Reduce_c m f hf hs
  generalize redR m = p at q ⊢
  obtain ⟨M, l, b⟩ := p
  refine callP q lL ?_
  cases b
  · simp -dsimp(disch:=first|exact om|fail)only[go_sem,↓reduceIte,Nat.reduceEqDiff,Nat.reduceAdd,Nat.reduceSub,Nat.reduceMul,Nat.reduceLT,Nat.reduceLeDiff,reduceCtorEq,a_eq,a_neq,a_cast0,a_pred,a_app1,a_zero,Int.reduceToNat]
  · simp -dsimp(disch:=first|exact om|fail)only[go_sem,↓reduceIte,Nat.reduceEqDiff,Nat.reduceAdd,Nat.reduceSub,Nat.reduceMul,Nat.reduceLT,Nat.reduceLeDiff,reduceCtorEq,a_eq,a_neq,a_cast0,a_pred,a_app1,a_zero,Int.reduceToNat]
end Go.Proofs.Ytgkimfncegbeaaa
