/- part of the proof -/
import Derived.Test.YtgkimfncegbeaaaGreatTZc
import Derived.Test.YtgkimfncegbeaaaGreatTGa
namespace Go.Proofs.YtgkimfncegbeaaaGreat
open Go Go.RowKit
set_option maxRecDepth 100000
set_option maxHeartbeats 4000000
set_option linter.unusedVariables false
set_option linter.unusedSimpArgs false
def szLL : List (List RD) → Nat
  | [] => 0
  | l :: L => szL l + szLL L
theorem szLL_nil : szLL [] = 0 := rfl
theorem szLL_cons (l : List RD) (L : List (List RD)) : szLL (l :: L) = szL l + szLL L := rfl
theorem szLL_append (a b : List (List RD)) : szLL (a ++ b) = szLL a + szLL b := by
  induction a with
  | nil => simp [szLL]
  | cons l a ih => rw [List.cons_append, szLL_cons, szLL_cons, ih]; omega
def markSS : List (List RD) → Int → List (List RD)
  | [], _ => []
  | l :: L, k => markS l k :: markSS L (k + szL l)
theorem markSS_cons (l : List RD) (L : List (List RD)) (k : Int) : markSS (l :: L) k = markS l k :: markSS L (k + szL l) := rfl
theorem markSS_length (L : List (List RD)) (k : Int) : (markSS L k).length = L.length := by
  induction L generalizing k with
  | nil => rfl
  | cons l L ih => unfold markSS; rw [List.length_cons, ih, List.length_cons]
theorem markSS_append (a b : List (List RD)) (k : Int) : markSS (a ++ b) k = markSS a k ++ markSS b (k + szLL a) := by
  induction a generalizing k with
  | nil => simp [markSS, szLL]
  | cons l a ih =>
    rw [List.cons_append, markSS_cons, markSS_cons, ih, List.cons_append, szLL_cons, Int.natCast_add, Int.add_assoc]
theorem markSS_get {L : List (List RD)} {k : Int} {i : Nat} (h : i < L.length) : (markSS L k).getD i [] = markS (L.getD i []) (k + szLL (L.take i)) := by
  induction L generalizing k i with
  | nil => simp at h
  | cons l L ih =>
    cases i with
    | zero => simp [markSS, szLL]
    | succ i =>
      unfold markSS
      rw [List.getD_cons_succ, List.getD_cons_succ, List.take_succ_cons, ih (by simpa using h)]
      rw [szLL_cons]
      congr 1
      omega
def smallLL (L : List (List RD)) : Prop := L.length ≤ 1000 ∧ ∀ l ∈ L, smallL l
theorem vsC_nil {f g : Fl} : vsC f g [] = [] := rfl
theorem vsC_at {f g : Fl} {L : List (List RD)} {i : Nat} (h : i < L.length) : ((vsC f g L).drop i)[0]? = some (V.sl f 3 (L.getD i []).length (rsC g (L.getD i []))) := by
  rw [List.getElem?_drop, Nat.add_zero, vsC, List.getElem?_map, List.getElem?_eq_getElem h, List.getD_eq_getElem?_getD, List.getElem?_eq_getElem h]; rfl
theorem getD_mem {L : List (List RD)} {i : Nat} (h : i < L.length) : L.getD i [] ∈ L := by
  rw [List.getD_eq_getElem?_getD, List.getElem?_eq_getElem h]; exact List.getElem_mem h
theorem take_get {L : List (List RD)} {i : Nat} (h : i < L.length) : L.take (i + 1) = L.take i ++ [L.getD i []] := by
  rw [List.take_succ_eq_append_getElem h, List.getD_eq_getElem?_getD, List.getElem?_eq_getElem h]; rfl
theorem eqRatSS_c (f g : Fl) (hf : f ≠ .u) (hg : g ≠ .u) (L : List (List RD)) (hl : smallLL L) : PC PP F_laws_eqRatSS [.sl f 1 L.length (vsC f f L), .sl g 1 L.length (vsC g g L)] (Bo true) [] := by
  have hn := hl.1
  have h1 : (vsC f f L).length = L.length := vsC_length
  have h2 : (vsC g g L).length = L.length := vsC_length
  refine tx W_laws_eqRatSS ke_laws_eqRatSS [] (by kernel_rfl) ?_
  simp -dsimp(disch:=first|exact om|fail)only[go_sem,↓reduceIte,Nat.reduceEqDiff,Nat.reduceAdd,Nat.reduceSub,Nat.reduceMul,Nat.reduceLT,Nat.reduceLeDiff,reduceCtorEq,a_eq,a_neq,a_cast0,a_pred,a_app1,a_zero,Int.reduceToNat]
  refine loopI (fun i : Nat => i ≤ L.length) (fun i => ⟨[(0, .sl f 1 L.length (vsC f f L)), (1, .sl g 1 L.length (vsC g g L)), (5, I i)], []⟩) (fun i => L.length - i) 0 (by omega) ?_ ?_
  · simp -dsimp(disch:=first|exact om|fail)only[go_sem,↓reduceIte,Nat.reduceEqDiff,Nat.reduceAdd,Nat.reduceSub,Nat.reduceMul,Nat.reduceLT,Nat.reduceLeDiff,reduceCtorEq,a_eq,a_neq,a_cast0,a_pred,a_app1,a_zero,Int.reduceToNat]
  intro i hi
  by_cases h : i < L.length
  · have e1 := vsC_at (f := f) (g := f) h
    have e2 := vsC_at (f := g) (g := g) h
    have q := eqRatS_c f g hf hg (L.getD i []) (L.getD i []) (hl.2 _ (getD_mem h))
    rw [decide_eq_true rfl] at q
    simp -dsimp(disch:=first|exact om|fail)only[go_sem,↓reduceIte,Nat.reduceEqDiff,Nat.reduceAdd,Nat.reduceSub,Nat.reduceMul,Nat.reduceLT,Nat.reduceLeDiff,reduceCtorEq,a_eq,a_neq,a_cast0,a_pred,a_app1,a_zero,Int.reduceToNat, e1, e2]
    refine callP q lL ?_
    simp -dsimp(disch:=first|exact om|fail)only[go_sem,↓reduceIte,Nat.reduceEqDiff,Nat.reduceAdd,Nat.reduceSub,Nat.reduceMul,Nat.reduceLT,Nat.reduceLeDiff,reduceCtorEq,a_eq,a_neq,a_cast0,a_pred,a_app1,a_zero,Int.reduceToNat]
    exact ⟨i + 1, by omega, by omega, by omega⟩
  · obtain rfl : i = L.length := by omega
    simp -dsimp(disch:=first|exact om|fail)only[go_sem,↓reduceIte,Nat.reduceEqDiff,Nat.reduceAdd,Nat.reduceSub,Nat.reduceMul,Nat.reduceLT,Nat.reduceLeDiff,reduceCtorEq,a_eq,a_neq,a_cast0,a_pred,a_app1,a_zero,Int.reduceToNat]
theorem le_rsF {H : List Ob} {f : Fl} (hf : f ≠ .u) {n : Nat} {l : List RD} : Le H .b (.sl f 3 n (rsC f l)) (.sl f 3 n (rsC f l)) := by
  cases f
  · exact .sl _ _ _ _ _ _ (Or.inl rfl) (leL_rsC fun m => .sl _ _ _ _ _ _ (show FlLe .b .s .s from Or.inl rfl) LeL.lits)
  · exact .sl _ _ _ _ _ _ ⟨rfl, rfl⟩ (leL_rsC fun m => .sl _ _ _ _ _ _ (show FlLe .b .b .b from ⟨rfl, rfl⟩) LeL.lits)
  · exact absurd rfl hf
theorem heldRatSS_m (f : Fl) (hf : f ≠ .u) (L : List (List RD)) (k : Int) (hl : smallLL L) (hs : szLL L ≤ 90000000) (hk : 0 ≤ k ∧ k ≤ 10000000) :
    PC PP F_laws_heldRatSS [.sl f 1 L.length (vsC f f (markSS L k)), I k] (I (k + szLL L)) [] := by
  have hn := hl.1
  have h1 : (markSS L k).length = L.length := markSS_length L k
  refine tx W_laws_heldRatSS ke_laws_heldRatSS [] (by kernel_rfl) ?_
  simp -dsimp(disch:=first|exact om|fail)only[go_sem,↓reduceIte,Nat.reduceEqDiff,Nat.reduceAdd,Nat.reduceSub,Nat.reduceMul,Nat.reduceLT,Nat.reduceLeDiff,reduceCtorEq,a_eq,a_neq,a_cast0,a_pred,a_app1,a_zero,Int.reduceToNat]
  refine loopI (fun i : Nat => i ≤ L.length) (fun i => ⟨[(0, .sl f 1 L.length (vsC f f (markSS L k))), (1, I (k + szLL (L.take i))), (5, I i)], []⟩) (fun i => L.length - i) 0 (by omega) ?_ ?_
  · simp -dsimp(disch:=first|exact om|fail)only[go_sem,↓reduceIte,Nat.reduceEqDiff,Nat.reduceAdd,Nat.reduceSub,Nat.reduceMul,Nat.reduceLT,Nat.reduceLeDiff,reduceCtorEq,a_eq,a_neq,a_cast0,a_pred,a_app1,a_zero,Int.reduceToNat, List.take_zero, szLL_nil]
  intro i hi
  by_cases h : i < L.length
  · have hsz : szLL (L.take i) + szLL (L.drop i) = szLL L := by rw [← szLL_append, List.take_append_drop]
    have hd : L.drop i = L.getD i [] :: L.drop (i + 1) := by rw [List.drop_eq_getElem_cons h]; simp [h]
    rw [hd] at hsz
    rw [szLL_cons] at hsz
    have e1 := vsC_at (f := f) (g := f) (L := markSS L k) (i := i) (by rw [markSS_length]; exact h)
    rw [markSS_get h] at e1
    have q := heldRatS_m f hf (L.getD i []) (k + szLL (L.take i)) (hl.2 _ (getD_mem h)) (by omega) (by omega)
    have eZ : szLL (L.take (i + 1)) = szLL (L.take i) + szL (L.getD i []) := by rw [take_get h, szLL_append]; simp [szLL]
    rw [sR, markS_length] at q
    simp -dsimp(disch:=first|exact om|fail)only[go_sem,↓reduceIte,Nat.reduceEqDiff,Nat.reduceAdd,Nat.reduceSub,Nat.reduceMul,Nat.reduceLT,Nat.reduceLeDiff,reduceCtorEq,a_eq,a_neq,a_cast0,a_pred,a_app1,a_zero,Int.reduceToNat, e1, h1]
    refine callP q (.cons _ _ _ _ (le_rsF hf) (.cons _ _ _ _ (.lit _) .nil)) ?_
    simp -dsimp(disch:=first|exact om|fail)only[go_sem,↓reduceIte,Nat.reduceEqDiff,Nat.reduceAdd,Nat.reduceSub,Nat.reduceMul,Nat.reduceLT,Nat.reduceLeDiff,reduceCtorEq,a_eq,a_neq,a_cast0,a_pred,a_app1,a_zero,Int.reduceToNat]
    exact ⟨i + 1, by omega, by omega, by rw [eZ]; omega, by omega⟩
  · obtain rfl : i = L.length := by omega
    rw [List.take_length]
    simp -dsimp(disch:=first|exact om|fail)only[go_sem,↓reduceIte,Nat.reduceEqDiff,Nat.reduceAdd,Nat.reduceSub,Nat.reduceMul,Nat.reduceLT,Nat.reduceLeDiff,reduceCtorEq,a_eq,a_neq,a_cast0,a_pred,a_app1,a_zero,Int.reduceToNat, h1]
theorem set_at0 {α : Type} {X Y : List α} {a v : α} : (X ++ a :: Y).set X.length v = X ++ v :: Y := by
  rw [List.set_append_right _ _ (by omega), Nat.sub_self]; rfl
theorem markRatSS_c (L : List (List RD)) (k : Int) (hl : smallLL L) (hs : szLL L ≤ 90000000) (hk : 0 ≤ k ∧ k ≤ 10000000) :
    GC PP F_laws_markRatSS [.rsl 0 1 0 L.length, I k] [⟨.own, T_sl_impl_Rat, vsC .u .u L⟩] (I (k + szLL L)) [⟨.own, T_sl_impl_Rat, vsC .u .u (markSS L k)⟩] := by
  have hn := hl.1
  refine txg W_laws_markRatSS ke_laws_markRatSS 1 [] [4] [4] rfl (by kernel_rfl) ?_
  simp -dsimp(disch:=first|exact om|fail)only[go_sem,↓reduceIte,Nat.reduceEqDiff,Nat.reduceAdd,Nat.reduceSub,Nat.reduceMul,Nat.reduceLT,Nat.reduceLeDiff,reduceCtorEq,a_eq,a_neq,a_cast0,a_pred,a_app1,a_zero,Int.reduceToNat]
  refine loopJ (fun i : Nat => i ≤ L.length) (fun i => ⟨[(0, .rsl 0 1 0 L.length), (1, I (k + szLL (L.take i))), (5, I i)], [⟨.own, T_sl_impl_Rat, vsC .u .u (markSS (L.take i) k) ++ vsC .u .u (L.drop i)⟩]⟩) (fun i => L.length - i) 0 (by omega) ?_ ?_
  · exact StI.ren [some 0] [[]] lE (by decide) (by simp -dsimp(disch:=first|exact om|fail)only[go_sem,↓reduceIte,Nat.reduceEqDiff,Nat.reduceAdd,Nat.reduceSub,Nat.reduceMul,Nat.reduceLT,Nat.reduceLeDiff,reduceCtorEq,a_eq,a_neq,a_cast0,a_pred,a_app1,a_zero,Int.reduceToNat, List.take_zero, List.drop_zero, markSS, vsC_nil, List.nil_append]; exact RnL.same vsC_flat (fun h => by cases h)) (by simp -dsimp(disch:=first|exact om|fail)only[go_sem,↓reduceIte,Nat.reduceEqDiff,Nat.reduceAdd,Nat.reduceSub,Nat.reduceMul,Nat.reduceLT,Nat.reduceLeDiff,reduceCtorEq,a_eq,a_neq,a_cast0,a_pred,a_app1,a_zero,Int.reduceToNat, List.take_zero, szLL_nil])
  intro i hi
  by_cases h : i < L.length
  · have hsz : szLL (L.take i) + szLL (L.drop i) = szLL L := by rw [← szLL_append, List.take_append_drop]
    have hd : L.drop i = L.getD i [] :: L.drop (i + 1) := by rw [List.drop_eq_getElem_cons h]; simp [h]
    rw [hd] at hsz
    rw [szLL_cons] at hsz
    have eZ : szLL (L.take (i + 1)) = szLL (L.take i) + szL (L.getD i []) := by rw [take_get h, szLL_append]; simp [szLL]
    have eM : markSS (L.take (i + 1)) k = markSS (L.take i) k ++ [markS (L.getD i []) (k + szLL (L.take i))] := by rw [take_get h, markSS_append]; rfl
    have q := markRatS_c (L.getD i []) (k + szLL (L.take i)) (hl.2 _ (getD_mem h)) (by omega) (by omega)
    have hX : (vsC .u .u (markSS (L.take i) k)).length = i := by rw [vsC_length, markSS_length, List.length_take]; omega
    rw [hd, show vsC .u .u (L.getD i [] :: L.drop (i + 1)) = V.sl .u 3 (L.getD i []).length (rsC .u (L.getD i [])) :: vsC .u .u (L.drop (i + 1)) from rfl]
    generalize hXX : vsC .u .u (markSS (L.take i) k) = X at *
    generalize L.getD i [] = l at *
    simp -dsimp(disch:=first|exact om|fail)only[go_sem,↓reduceIte,Nat.reduceEqDiff,Nat.reduceAdd,Nat.reduceSub,Nat.reduceMul,Nat.reduceLT,Nat.reduceLeDiff,reduceCtorEq,a_eq,a_neq,a_cast0,a_pred,a_app1,a_zero,Int.reduceToNat]
    have ho := StI.open (n0 := 1) (tm := [(0, .rsl 0 1 0 L.length), (1, I (k + szLL (L.take i))), (5, I i), (9, Bo true)]) (H := [⟨.own, T_sl_impl_Rat, X ++ V.sl .u 3 l.length (rsC .u l) :: vsC .u .u (L.drop (i + 1))⟩]) 0 X.length (ty := T_sl_impl_Rat) (cs := X ++ V.sl .u 3 l.length (rsC .u l) :: vsC .u .u (L.drop (i + 1))) (cs0 := rsC .u l) (sz := 3) (n := l.length) rfl (by simp) T_impl_Rat
    rw [set_at0] at ho
    refine ⟨_, ho, ?_⟩
    simp -dsimp(disch:=first|exact om|fail)only[go_sem,↓reduceIte,Nat.reduceEqDiff,Nat.reduceAdd,Nat.reduceSub,Nat.reduceMul,Nat.reduceLT,Nat.reduceLeDiff,reduceCtorEq,a_eq,a_neq,a_cast0,a_pred,a_app1,a_zero,Int.reduceToNat, preT, preD1, preD2, preD]
    refine callG' [1] q (by decide) lL lL lE lF ?_
    simp -dsimp(disch:=first|exact om|fail)only[go_sem,↓reduceIte,Nat.reduceEqDiff,Nat.reduceAdd,Nat.reduceSub,Nat.reduceMul,Nat.reduceLT,Nat.reduceLeDiff,reduceCtorEq,a_eq,a_neq,a_cast0,a_pred,a_app1,a_zero,Int.reduceToNat, preT, preD1, preD2, preD]
    refine ⟨i + 1, by omega, by omega, StI.ren [some 0] [[1]] lE (by decide) ?_ (by simp -dsimp(disch:=first|exact om|fail)only[go_sem,↓reduceIte,Nat.reduceEqDiff,Nat.reduceAdd,Nat.reduceSub,Nat.reduceMul,Nat.reduceLT,Nat.reduceLeDiff,reduceCtorEq,a_eq,a_neq,a_cast0,a_pred,a_app1,a_zero,Int.reduceToNat, eZ])⟩
    simp -dsimp(disch:=first|exact om|fail)only[go_sem,↓reduceIte,Nat.reduceEqDiff,Nat.reduceAdd,Nat.reduceSub,Nat.reduceMul,Nat.reduceLT,Nat.reduceLeDiff,reduceCtorEq,a_eq,a_neq,a_cast0,a_pred,a_app1,a_zero,Int.reduceToNat]
    rw [eM, vsC_app, hXX, List.append_assoc]
    refine RnL.app (k1 := []) (RnL.same (by rw [← hXX]; exact vsC_flat) (fun h => by cases h)) (.cons _ _ _ _ _ _ [1] [] (rn_rsU rfl (by rw [markS_length])) (RnL.same vsC_flat (fun h => by cases h)))
  · obtain rfl : i = L.length := by omega
    rw [List.take_length, List.drop_length, show vsC .u .u [] = [] from rfl, List.append_nil]
    simp -dsimp(disch:=first|exact om|fail)only[go_sem,↓reduceIte,Nat.reduceEqDiff,Nat.reduceAdd,Nat.reduceSub,Nat.reduceMul,Nat.reduceLT,Nat.reduceLeDiff,reduceCtorEq,a_eq,a_neq,a_cast0,a_pred,a_app1,a_zero,Int.reduceToNat]
    exact RtG.nothing [some 0] lE (by decide) (by simp -dsimp(disch:=first|exact om|fail)only[go_sem,↓reduceIte,Nat.reduceEqDiff,Nat.reduceAdd,Nat.reduceSub,Nat.reduceMul,Nat.reduceLT,Nat.reduceLeDiff,reduceCtorEq,a_eq,a_neq,a_cast0,a_pred,a_app1,a_zero,Int.reduceToNat]; exact RnL.same vsC_flat (fun _ => vsC_nbu)) lW
end Go.Proofs.YtgkimfncegbeaaaGreat
