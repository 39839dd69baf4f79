/- part of the proof -/
import Derived.Test.YtikmepdhpffdoaaGreatTRd
import Derived.Test.YtikmepdhpffdoaaGreatTLa5
import Derived.Test.YtikmepdhpffdoaaGreatTYe
import Derived.Test.YtikmepdhpffdoaaGreatTGr
namespace Go.Proofs.YtikmepdhpffdoaaGreat
open Go Go.RowKit
set_option maxRecDepth 100000
set_option maxHeartbeats 4000000
set_option linter.unusedVariables false
set_option linter.unusedSimpArgs false
@[go_sem ↓] theorem bslE_four {P : Program} {e sz : Nat} {parts : List (Nat × V)} {H : List Ob} {K : V → List Ob → Prop} : bslE P (some (e, sz)) 4 parts H K = bslF P e sz 4 [(0, sz), (sz, sz), (2 * sz, sz), (3 * sz, sz)] (tzer P e) parts H K := by
  rw [bslE_pos (by decide)]
  simp [List.range, List.range.loop]
noncomputable def FQ.val (x : FQ) : Rat := x.1.getD 0
theorem numX_val (l : List Int) (c : CS) : FV (numX l c) (numX l c).val 5 := by
  have key : ∀ x : FQ, (∃ r, FV x r 5) → FV x x.val 5 := fun x ⟨r, h⟩ => by
    have : x.val = r := by unfold FQ.val; rw [h.v]; rfl
    rw [this]; exact h
  refine key _ ?_
  unfold numX
  have b1 := CS.to_le (l := l) (c := c.nx l) (n := 41) (by omega)
  have b2 := CS.to_le (l := l) (c := (c.nx l).nx l) (n := 6) (by omega)
  have b3 := CS.to_le (l := l) (c := c.nx l) (n := 21) (by omega)
  split
  · unfold lowQ
    rw [if_neg (by omega)]
    have q : Sz (mkRat ((c.nx l).to l 41 - 20) (1 + ((c.nx l).nx l).to l 6).natAbs) 5 := ⟨_, _, Rat.mkRat_eq_div _ _, by omega, by omega, by omega⟩
    exact ⟨_, fit_sz q (by decide), q⟩
  · exact ⟨_, FV.ofInt (by omega) (by decide)⟩
theorem nX_val (l : List Int) (c : CS) (k : Nat) : FV (nX l c k) (nX l c k).val 5 := numX_val l _
theorem mt_grid {n c : Nat} {X : Nat → Nat → FQ} : mtV .s ⟨n, c, (gridL n c X).map qd⟩ = .agg [I n, I c, .sl .s 3 (n * c) (rsC .s ((gridL n c X).map qd))] := by
  show V.agg [I n, I c, .sl .s 3 ((gridL n c X).map qd).length _] = _
  rw [List.length_map, gridL_length]
theorem two_id : (cloQ 2 2 (listM 2 [1, 0, 0, 1])).1 = (cloQ 2 2 idM).1 := by
  have e : gridL 2 2 (listM 2 [1, 0, 0, 1]) = gridL 2 2 idM := gridL_congr fun i j hi hj => by
    obtain rfl | rfl : i = 0 ∨ i = 1 := by omega
    all_goals (obtain rfl | rfl : j = 0 ∨ j = 1 := by omega)
    all_goals rfl
  rw [cloQ_done, cloQ_done, e]
theorem clo_small {n c : Nat} {X : Nat → Nat → FQ} (hn : n ≤ 24) (hc : c ≤ 24) : smallL (cloQ n c X).1.cells := by
  rw [cloQ_done]; unfold doneM
  split
  · exact grid_small hn hc
  · exact ⟨by simp [MD.zero], by intro x hx; simp [MD.zero] at hx⟩
theorem sysQ_len' (m : MD) (l : List RD) : (sysQ m l).1.length ≤ 24 := by
  unfold sysQ
  split
  · rename_i h
    unfold sysOk at h
    simp only [Bool.and_eq_true, decide_eq_true_eq] at h
    unfold sysN
    split
    · show (rowQ _ _).length ≤ 24
      rw [rowQ_length]; omega
    · simp
  · simp
theorem FnInverse_s (l : List Int) : PC PP F_laws_FnInverse [byV .s l] (Bo true) [] := by
  refine txe W_laws_FnInverse ke_laws_FnInverse [] [] [] (by kernel_rfl) ?_
  by_cases hl : l.length ≤ 1048576
  · obtain ⟨m, hm⟩ : ∃ m : MD, m = ⟨3, 3, (gridL 3 3 (drawM l 1 3 3)).map qd⟩ := ⟨_, rfl⟩
    obtain ⟨x, hx⟩ : ∃ x, x = rowQ 3 (nX l (CS.at l 40)) := ⟨_, rfl⟩
    have qm : PC PP F_spec_MakeMatrix [byV .s l, I 1, I 3, I 3] (mtV .s m) [] := by
      have q := MakeMatrix_s l hl 1 3 3 (by omega) (by omega) (by omega)
      rw [hm, show mtV .s (⟨3, 3, (gridL 3 3 (drawM l 1 3 3)).map qd⟩ : MD) = _ from mt_grid (n := 3) (c := 3)]; exact q
    have hxl : x.length = 3 := by rw [hx, rowQ_length]
    have qv : PC PP F_spec_MakeVector [byV .s l, I 40, I 3] (sR .s (x.map qd)) [] := by
      have q := MakeVector_s l hl 40 3 (by omega) (by omega)
      rw [← hx] at q
      rw [show sR .s (x.map qd) = .sl .s 3 3 (rsC .s (x.map qd)) by show V.sl .s 3 (x.map qd).length _ = _; rw [List.length_map, hxl]]
      exact q
    have hdv : ∀ i j, i < 3 → j < 3 → FV (drawM l 1 3 3 i j) (drawM l 1 3 3 i j).val 5 := fun i j _ _ => nX_val l _ _
    have hg : m.Good 3 3 := by rw [hm]; exact grid_good (n := 3) (c := 3) (by omega) (by omega) fun i j hi hj => (hdv i j hi hj).good
    have hms : smallL m.cells := by rw [hm]; exact grid_small (by omega) (by omega)
    have hxs : smallL (x.map qd) := (qdl_small (by omega)).1
    obtain ⟨b, f1, f2, f3, f4, f5, f6, f7⟩ := inv_facts m hg (fun i j => (drawM l 1 3 3 i j).val) (fun i => (nX l (CS.at l 40) i).val) (fun i j hi hj => by
      have : m.at 3 i j = drawM l 1 3 3 i j := by rw [hm]; exact grid_at (n := 3) (c := 3) hi hj
      rw [this]; exact hdv i j hi hj) x hxl (fun i hi => by rw [hx, rowQ_get hi]; exact nX_val l _ _)
    have qi := impl_Inverse_c m hms
    have qd' := impl_Determinant_c m hms
    have qs' := impl_SolveSystem_c m (x.map qd) hms hxs
    have qr := impl_RankOf_c m .s fls hms
    have hqs : smallL (invR m).1.cells := (invR_small m).1
    have hys : smallL ((sysQ m (x.map qd)).1.map qd) := (qdl_small (by have := sysQ_len' m (x.map qd); omega)).1
    rw [f5, if_pos rfl] at qr
    generalize detQ m = D at *
    obtain ⟨Q, hQ⟩ : ∃ Q, Q = (invR m).1 := ⟨_, rfl⟩
    obtain ⟨y, hy⟩ : ∃ y, y = (sysQ m (x.map qd)).1 := ⟨_, rfl⟩
    rw [show invR m = (Q, b) by rw [hQ, ← f3]] at qi
    rw [show sysQ m (x.map qd) = (y, b) by rw [hy, ← f4]] at qs'
    rw [← hQ] at f7 hqs
    rw [← hy] at f7 hys
    generalize (redR m).2.1.length = p at *
    have qsg := impl_RatSign_c D
    generalize sgZ D.num = sg at *
    cases b
    · have hs : sg = 0 := f2.2 rfl
      have hp : ¬ p = 3 := fun q => by have := f6.1 q; cases this
      subst hs
      simp -dsimp(disch:=first|exact om|fail)only[go_sem,↓reduceIte,Nat.reduceEqDiff,Nat.reduceAdd,Nat.reduceSub,Nat.reduceMul,Nat.reduceLT,Nat.reduceLeDiff,reduceCtorEq,a_eq,a_neq,a_cast0,a_pred,a_app1,a_zero,Int.reduceToNat]
      refine callP qm lL ?_
      simp -dsimp(disch:=first|exact om|fail)only[go_sem,↓reduceIte,Nat.reduceEqDiff,Nat.reduceAdd,Nat.reduceSub,Nat.reduceMul,Nat.reduceLT,Nat.reduceLeDiff,reduceCtorEq,a_eq,a_neq,a_cast0,a_pred,a_app1,a_zero,Int.reduceToNat]
      refine callP qv lL ?_
      simp -dsimp(disch:=first|exact om|fail)only[go_sem,↓reduceIte,Nat.reduceEqDiff,Nat.reduceAdd,Nat.reduceSub,Nat.reduceMul,Nat.reduceLT,Nat.reduceLeDiff,reduceCtorEq,a_eq,a_neq,a_cast0,a_pred,a_app1,a_zero,Int.reduceToNat]
      refine callP qi lL ?_
      simp -dsimp(disch:=first|exact om|fail)only[go_sem,↓reduceIte,Nat.reduceEqDiff,Nat.reduceAdd,Nat.reduceSub,Nat.reduceMul,Nat.reduceLT,Nat.reduceLeDiff,reduceCtorEq,a_eq,a_neq,a_cast0,a_pred,a_app1,a_zero,Int.reduceToNat]
      refine callP qd' lL ?_
      simp -dsimp(disch:=first|exact om|fail)only[go_sem,↓reduceIte,Nat.reduceEqDiff,Nat.reduceAdd,Nat.reduceSub,Nat.reduceMul,Nat.reduceLT,Nat.reduceLeDiff,reduceCtorEq,a_eq,a_neq,a_cast0,a_pred,a_app1,a_zero,Int.reduceToNat, f1]
      refine callP qs' lL ?_
      simp -dsimp(disch:=first|exact om|fail)only[go_sem,↓reduceIte,Nat.reduceEqDiff,Nat.reduceAdd,Nat.reduceSub,Nat.reduceMul,Nat.reduceLT,Nat.reduceLeDiff,reduceCtorEq,a_eq,a_neq,a_cast0,a_pred,a_app1,a_zero,Int.reduceToNat, f1]
      refine callP qsg lL ?_
      simp -dsimp(disch:=first|exact om|fail)only[go_sem,↓reduceIte,Nat.reduceEqDiff,Nat.reduceAdd,Nat.reduceSub,Nat.reduceMul,Nat.reduceLT,Nat.reduceLeDiff,reduceCtorEq,a_eq,a_neq,a_cast0,a_pred,a_app1,a_zero,Int.reduceToNat, f1]
      refine callP qr lL ?_
      have j1 := impl_IdentityMatrix_c 2 (by omega)
      have j2 := impl_MatrixOf_c 2 2 (by omega) (by omega) [1, 0, 0, 1] rfl (by decide)
      have j4 : smallL (cloQ 2 2 idM).1.cells := clo_small (by omega) (by omega)
      rw [two_id] at j2
      generalize (cloQ 2 2 idM).1 = J at *
      have j3 := impl_EqualMatrices_c .s .s fls fls J J j4.fit j4.fit
      rw [decide_eq_true rfl] at j3
      replace j1 : PC PP F_impl_IdentityMatrix [I 2] (mtV .s J) [] := j1
      replace j2 : PC PP F_impl_MatrixOf [I 2, I 2, .sl .s 1 4 [I 1, I 0, I 0, I 1]] (mtV .s J) [] := j2
      simp -dsimp(disch:=first|exact om|fail)only[go_sem,↓reduceIte,Nat.reduceEqDiff,Nat.reduceAdd,Nat.reduceSub,Nat.reduceMul,Nat.reduceLT,Nat.reduceLeDiff,reduceCtorEq,a_eq,a_neq,a_cast0,a_pred,a_app1,a_zero,Int.reduceToNat]
      refine callP j1 lL ?_
      simp -dsimp(disch:=first|exact om|fail)only[go_sem,↓reduceIte,Nat.reduceEqDiff,Nat.reduceAdd,Nat.reduceSub,Nat.reduceMul,Nat.reduceLT,Nat.reduceLeDiff,reduceCtorEq,a_eq,a_neq,a_cast0,a_pred,a_app1,a_zero,Int.reduceToNat]
      refine callP j2 (.cons _ _ _ _ (.lit _) (.cons _ _ _ _ (.lit _) (.cons _ _ _ _ (.sl _ _ _ _ _ _ (show FlLe .b .s .s from Or.inl rfl) (LeL.lits (l := [1, 0, 0, 1]))) .nil))) ?_
      simp -dsimp(disch:=first|exact om|fail)only[go_sem,↓reduceIte,Nat.reduceEqDiff,Nat.reduceAdd,Nat.reduceSub,Nat.reduceMul,Nat.reduceLT,Nat.reduceLeDiff,reduceCtorEq,a_eq,a_neq,a_cast0,a_pred,a_app1,a_zero,Int.reduceToNat]
      refine callP j3 lL ?_
      simp -dsimp(disch:=first|exact om|fail)only[go_sem,↓reduceIte,Nat.reduceEqDiff,Nat.reduceAdd,Nat.reduceSub,Nat.reduceMul,Nat.reduceLT,Nat.reduceLeDiff,reduceCtorEq,a_eq,a_neq,a_cast0,a_pred,a_app1,a_zero,Int.reduceToNat]
    · have hs : ¬ sg = 0 := fun q => by have := f2.1 q; cases this
      have hp : p = 3 := f6.2 rfl
      subst hp
      obtain ⟨g1, g2, g3⟩ := f7 rfl
      simp -dsimp(disch:=first|exact om|fail)only[go_sem,↓reduceIte,Nat.reduceEqDiff,Nat.reduceAdd,Nat.reduceSub,Nat.reduceMul,Nat.reduceLT,Nat.reduceLeDiff,reduceCtorEq,a_eq,a_neq,a_cast0,a_pred,a_app1,a_zero,Int.reduceToNat]
      refine callP qm lL ?_
      simp -dsimp(disch:=first|exact om|fail)only[go_sem,↓reduceIte,Nat.reduceEqDiff,Nat.reduceAdd,Nat.reduceSub,Nat.reduceMul,Nat.reduceLT,Nat.reduceLeDiff,reduceCtorEq,a_eq,a_neq,a_cast0,a_pred,a_app1,a_zero,Int.reduceToNat]
      refine callP qv lL ?_
      simp -dsimp(disch:=first|exact om|fail)only[go_sem,↓reduceIte,Nat.reduceEqDiff,Nat.reduceAdd,Nat.reduceSub,Nat.reduceMul,Nat.reduceLT,Nat.reduceLeDiff,reduceCtorEq,a_eq,a_neq,a_cast0,a_pred,a_app1,a_zero,Int.reduceToNat]
      refine callP qi lL ?_
      simp -dsimp(disch:=first|exact om|fail)only[go_sem,↓reduceIte,Nat.reduceEqDiff,Nat.reduceAdd,Nat.reduceSub,Nat.reduceMul,Nat.reduceLT,Nat.reduceLeDiff,reduceCtorEq,a_eq,a_neq,a_cast0,a_pred,a_app1,a_zero,Int.reduceToNat]
      refine callP qd' lL ?_
      simp -dsimp(disch:=first|exact om|fail)only[go_sem,↓reduceIte,Nat.reduceEqDiff,Nat.reduceAdd,Nat.reduceSub,Nat.reduceMul,Nat.reduceLT,Nat.reduceLeDiff,reduceCtorEq,a_eq,a_neq,a_cast0,a_pred,a_app1,a_zero,Int.reduceToNat, f1]
      refine callP qs' lL ?_
      simp -dsimp(disch:=first|exact om|fail)only[go_sem,↓reduceIte,Nat.reduceEqDiff,Nat.reduceAdd,Nat.reduceSub,Nat.reduceMul,Nat.reduceLT,Nat.reduceLeDiff,reduceCtorEq,a_eq,a_neq,a_cast0,a_pred,a_app1,a_zero,Int.reduceToNat, f1]
      refine callP qsg lL ?_
      simp -dsimp(disch:=first|exact om|fail)only[go_sem,↓reduceIte,Nat.reduceEqDiff,Nat.reduceAdd,Nat.reduceSub,Nat.reduceMul,Nat.reduceLT,Nat.reduceLeDiff,reduceCtorEq,a_eq,a_neq,a_cast0,a_pred,a_app1,a_zero,Int.reduceToNat, f1]
      refine callP qr lL ?_
      have j1 := impl_IdentityMatrix_c 3 (by omega)
      have j4 : smallL (cloQ 3 3 idM).1.cells := clo_small (by omega) (by omega)
      have k1 := impl_Multiply_c m Q hms hqs
      have k2 := impl_ApplyMatrix_c m (y.map qd) hms hys
      have k3 := impl_ApplyMatrix_c Q (x.map qd) hqs hxs
      rw [g1] at k1
      rw [g2] at k2
      rw [g3] at k3
      generalize (cloQ 3 3 idM).1 = J at *
      have j3 := impl_EqualMatrices_c .s .s fls fls J J j4.fit j4.fit
      rw [decide_eq_true rfl] at j3
      have j5 := impl_EqualVectors_c .s .s fls fls (x.map qd) (x.map qd) hxs.fit hxs.fit
      rw [decide_eq_true rfl] at j5
      have j6 := impl_EqualVectors_c .s .s fls fls (y.map qd) (y.map qd) hys.fit hys.fit
      rw [decide_eq_true rfl] at j6
      replace j1 : PC PP F_impl_IdentityMatrix [I 3] (mtV .s J) [] := j1
      simp -dsimp(disch:=first|exact om|fail)only[go_sem,↓reduceIte,Nat.reduceEqDiff,Nat.reduceAdd,Nat.reduceSub,Nat.reduceMul,Nat.reduceLT,Nat.reduceLeDiff,reduceCtorEq,a_eq,a_neq,a_cast0,a_pred,a_app1,a_zero,Int.reduceToNat]
      refine callP k1 lL ?_
      simp -dsimp(disch:=first|exact om|fail)only[go_sem,↓reduceIte,Nat.reduceEqDiff,Nat.reduceAdd,Nat.reduceSub,Nat.reduceMul,Nat.reduceLT,Nat.reduceLeDiff,reduceCtorEq,a_eq,a_neq,a_cast0,a_pred,a_app1,a_zero,Int.reduceToNat]
      refine callP k2 lL ?_
      simp -dsimp(disch:=first|exact om|fail)only[go_sem,↓reduceIte,Nat.reduceEqDiff,Nat.reduceAdd,Nat.reduceSub,Nat.reduceMul,Nat.reduceLT,Nat.reduceLeDiff,reduceCtorEq,a_eq,a_neq,a_cast0,a_pred,a_app1,a_zero,Int.reduceToNat]
      refine callP k3 lL ?_
      simp -dsimp(disch:=first|exact om|fail)only[go_sem,↓reduceIte,Nat.reduceEqDiff,Nat.reduceAdd,Nat.reduceSub,Nat.reduceMul,Nat.reduceLT,Nat.reduceLeDiff,reduceCtorEq,a_eq,a_neq,a_cast0,a_pred,a_app1,a_zero,Int.reduceToNat]
      refine callP j1 lL ?_
      simp -dsimp(disch:=first|exact om|fail)only[go_sem,↓reduceIte,Nat.reduceEqDiff,Nat.reduceAdd,Nat.reduceSub,Nat.reduceMul,Nat.reduceLT,Nat.reduceLeDiff,reduceCtorEq,a_eq,a_neq,a_cast0,a_pred,a_app1,a_zero,Int.reduceToNat]
      refine callP j3 lL ?_
      simp -dsimp(disch:=first|exact om|fail)only[go_sem,↓reduceIte,Nat.reduceEqDiff,Nat.reduceAdd,Nat.reduceSub,Nat.reduceMul,Nat.reduceLT,Nat.reduceLeDiff,reduceCtorEq,a_eq,a_neq,a_cast0,a_pred,a_app1,a_zero,Int.reduceToNat]
      refine callP j5 lL ?_
      simp -dsimp(disch:=first|exact om|fail)only[go_sem,↓reduceIte,Nat.reduceEqDiff,Nat.reduceAdd,Nat.reduceSub,Nat.reduceMul,Nat.reduceLT,Nat.reduceLeDiff,reduceCtorEq,a_eq,a_neq,a_cast0,a_pred,a_app1,a_zero,Int.reduceToNat]
      refine callP j6 lL ?_
      simp -dsimp(disch:=first|exact om|fail)only[go_sem,↓reduceIte,Nat.reduceEqDiff,Nat.reduceAdd,Nat.reduceSub,Nat.reduceMul,Nat.reduceLT,Nat.reduceLeDiff,reduceCtorEq,a_eq,a_neq,a_cast0,a_pred,a_app1,a_zero,Int.reduceToNat]
  · simp -dsimp(disch:=first|exact om|fail)only[go_sem,↓reduceIte,Nat.reduceEqDiff,Nat.reduceAdd,Nat.reduceSub,Nat.reduceMul,Nat.reduceLT,Nat.reduceLeDiff,reduceCtorEq,a_eq,a_neq,a_cast0,a_pred,a_app1,a_zero,Int.reduceToNat]
theorem byC_only {l : List Int} : V.onlySL (byC l) := by
  induction l with
  | nil => trivial
  | cons a l ih => exact ⟨trivial, ih⟩
theorem byC_tb {l : List Int} : V.tbL (byC l) = byC l := by
  induction l with
  | nil => rfl
  | cons a l ih => show V.tb _ :: V.tbL (byC l) = _ :: byC l; rw [ih]; rfl
theorem by_lent {f : FuncId} {l : List Int} (h : PC PP f [byV .s l] (Bo true) []) (g : Fl) (hg : g ≠ .u) : PC PP f [byV g l] (Bo true) [] := by
  cases g with
  | u => exact absurd rfl hg
  | s => exact h
  | b =>
    have q := h.lentO ⟨byC_only, trivial⟩ trivial (by intro ob hob; cases hob)
    rw [show V.tbL [byV .s l] = [byV .b l] by show [V.sl .b 1 l.length (V.tbL (byC l))] = _; rw [byC_tb]] at q
    exact q
theorem rdN_bytes {e : TypeId} (he : PP.underlying e = some (.int .u8)) : ∀ {n : Nat} {cs : List V}, RdN PP e n cs → ∃ l : List Int, cs = byC l ∧ l.length = n
  | 0, _, .zero _ => ⟨[], rfl, rfl⟩
  | n + 1, _, .succ _ _ vs ws h1 h2 h3 => by
    obtain ⟨m, rfl, _⟩ := rd_int he h1
    obtain ⟨l, rfl, hl⟩ := rdN_bytes he h3
    exact ⟨m :: l, rfl, by simp [hl]⟩
theorem u_bytes : PP.underlying T_sl_uint8 = some (.slice T_uint8) := by kernel_rfl
theorem u_byte : PP.underlying T_uint8 = some (.int .u8) := by kernel_rfl
theorem c_byte : PP.cellsOf T_uint8 = 1 := by kernel_rfl
theorem rdv_bytes {v : V} (h : RdV PP T_sl_uint8 v) : ∃ l : List Int, v = byV .b l ∧ l.length ≤ 9223372036854775807 := by
  obtain ⟨n, cs, e, hn, hr⟩ := rd_slice u_bytes (rdV_one (by intro fs; rw [u_bytes]; simp) h)
  obtain ⟨l, rfl, rfl⟩ := rdN_bytes u_byte hr
  simp only [List.cons.injEq, and_true] at e
  exact ⟨l, by rw [e, c_byte], hn⟩
theorem FnInverse_c (f : Fl) (hf : f ≠ .u) (l : List Int) (hl : l.length ≤ 9223372036854775807) : PC PP F_laws_FnInverse [byV f l] (Bo true) [] := by_lent (FnInverse_s l) f hf
end Go.Proofs.YtikmepdhpffdoaaGreat
