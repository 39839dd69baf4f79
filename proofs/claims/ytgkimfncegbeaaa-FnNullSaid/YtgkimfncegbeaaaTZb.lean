/- part of the proof -/
import Derived.Test.YtgkimfncegbeaaaTZa
namespace Go.Proofs.Ytgkimfncegbeaaa
open Go Go.RowKit
set_option maxRecDepth 100000
set_option maxHeartbeats 4000000
set_option linter.unusedVariables false
set_option linter.unusedSimpArgs false
def vsC (f g : Fl) (L : List (List RD)) : List V := L.map fun l => V.sl f 3 l.length (rsC g l)
theorem vsC_app {f g : Fl} {L : List (List RD)} {l : List RD} : vsC f g (L ++ [l]) = vsC f g L ++ [V.sl f 3 l.length (rsC g l)] := by simp [vsC]
@[go_sem] theorem vsC_length {f g : Fl} {L : List (List RD)} : (vsC f g L).length = L.length := by simp [vsC]
theorem vsC_mem {f g : Fl} {L : List (List RD)} {v : V} (h : v ∈ vsC f g L) : ∃ l, l ∈ L ∧ v = V.sl f 3 l.length (rsC g l) := by
  obtain ⟨l, hl, rfl⟩ := List.mem_map.1 h
  exact ⟨l, hl, rfl⟩
theorem vsC_flat {f g : Fl} {L : List (List RD)} : ∀ v ∈ vsC f g L, v.flat := fun v hv => by
  obtain ⟨l, _, rfl⟩ := vsC_mem hv; trivial
theorem vsC_nbu {g : Fl} {L : List (List RD)} : ∀ v ∈ vsC .u g L, v.nb := fun v hv => by
  obtain ⟨l, _, rfl⟩ := vsC_mem hv; trivial
theorem rwC_get {f g : Fl} {c k : Nat} {L : List (List FQ)} (h : k < L.length) : ((rwC f g c L).drop k)[0]? = some (V.sl f 1 c (qs g (L.getD k []))) := by
  rw [List.getElem?_drop, Nat.add_zero, rwC, List.getElem?_map, List.getElem?_eq_getElem h, List.getD_eq_getElem?_getD, List.getElem?_eq_getElem h]; rfl
theorem rn_rsU {H : List Ob} {js : List (Option Nat)} {bk : Bool} {k c : Nat} {ty : TypeId} {l : List RD} (h : H[k]? = some ⟨.own, ty, rsC .u l⟩) (hl : l.length = c) : Rn H js bk (.rsl k 3 0 c) (.sl .u 3 l.length (rsC .u l)) [k] := by
  subst hl
  have e : (rsC .u l).take (l.length * 3) = rsC .u l := List.take_of_length_le (by rw [rsC_length]; exact Nat.le_refl _)
  refine Rn.cl js bk k 3 l.length ⟨.own, ty, rsC .u l⟩ (rsC .u l) [] h rfl (by show l.length * 3 ≤ (rsC .u l).length; rw [rsC_length]; exact Nat.le_refl _) ?_
  rw [e]
  exact rnL_rsC (fun _ => by simp)
theorem storesAll_g (c : Nat) (hc : c ≤ 24) (L : List (List FQ)) (hl : L.length ≤ 24) (hr : ∀ l ∈ L, l.length = c ∧ allG l = true) :
    GC PP F_impl_storesAll [.sl .b 1 L.length (rwC .b .b c L)] [] (.rsl 0 1 0 L.length) [⟨.own, T_sl_impl_Rat, vsC .u .u (L.map fun l => l.map qd)⟩] := by
  refine txg W_impl_storesAll ke_impl_storesAll 0 [] [] [6] rfl (by kernel_rfl) ?_
  have hlen : (rwC .b .b c L).length = L.length := rwC_length
  simp -dsimp(disch:=first|exact om|fail)only[go_sem,↓reduceIte,Nat.reduceEqDiff,Nat.reduceAdd,Nat.reduceSub,Nat.reduceMul,Nat.reduceLT,Nat.reduceLeDiff,reduceCtorEq,a_eq,a_neq,a_cast0,a_pred,a_app1,a_zero,Int.reduceToNat]
  refine loopJ (fun k : Nat => k ≤ L.length) (fun k => ⟨[(3, .rsl 0 1 0 k), (8, .sl .b 1 L.length (rwC .b .b c L)), (9, I L.length), (10, I k)], [⟨.own, T_sl_impl_Rat, vsC .u .u ((L.map fun l => l.map qd).take k)⟩]⟩) (fun k => L.length - k) 0 (by omega) ?_ ?_
  · refine StI.ren [none] [[]] lE (by decide) (by simp -dsimp(disch:=first|exact om|fail)only[go_sem,↓reduceIte,Nat.reduceEqDiff,Nat.reduceAdd,Nat.reduceSub,Nat.reduceMul,Nat.reduceLT,Nat.reduceLeDiff,reduceCtorEq,a_eq,a_neq,a_cast0,a_pred,a_app1,a_zero,Int.reduceToNat]; rfl) lW
  intro k hk
  by_cases h : k < L.length
  · have hg := rwC_get (f := .b) (g := .b) (c := c) h
    have hm : L.getD k [] ∈ L := by rw [List.getD_eq_getElem?_getD, List.getElem?_eq_getElem h]; exact List.getElem_mem h
    obtain ⟨h1, h2⟩ := hr _ hm
    have hs := stores_ok .b .b flb flb (L.getD k []) (by rw [h1]; omega) h2
    have ht : (L.map fun l => l.map qd).take (k + 1) = (L.map fun l => l.map qd).take k ++ [(L.getD k []).map qd] := by
      rw [← List.map_take, List.take_succ_eq_append_getElem h, List.map_append, List.map_take, List.getD_eq_getElem?_getD, List.getElem?_eq_getElem h]; rfl
    have htl : ((L.map fun l => l.map qd).take k).length = k := by rw [List.length_take, List.length_map]; omega
    generalize (L.map fun l => l.map qd) = L' at *
    generalize L.getD k [] = l at *
    rw [sQ, h1] at hs
    simp -dsimp(disch:=first|exact om|fail)only[go_sem,↓reduceIte,Nat.reduceEqDiff,Nat.reduceAdd,Nat.reduceSub,Nat.reduceMul,Nat.reduceLT,Nat.reduceLeDiff,reduceCtorEq,a_eq,a_neq,a_cast0,a_pred,a_app1,a_zero,Int.reduceToNat, hg]
    refine callO' hs (.cons _ _ _ _ (.sl _ _ _ _ _ _ ⟨rfl, rfl⟩ (leL_qsb flb)) .nil) lF ?_
    simp -dsimp(disch:=first|exact om|fail)only[go_sem,↓reduceIte,Nat.reduceEqDiff,Nat.reduceAdd,Nat.reduceSub,Nat.reduceMul,Nat.reduceLT,Nat.reduceLeDiff,reduceCtorEq,a_eq,a_neq,a_cast0,a_pred,a_app1,a_zero,Int.reduceToNat, htl]
    refine ⟨k + 1, by omega, by omega, StI.ren [some 3] [[1]] lE (by decide) ?_ lW⟩
    simp -dsimp(disch:=first|exact om|fail)only[go_sem,↓reduceIte,Nat.reduceEqDiff,Nat.reduceAdd,Nat.reduceSub,Nat.reduceMul,Nat.reduceLT,Nat.reduceLeDiff,reduceCtorEq,a_eq,a_neq,a_cast0,a_pred,a_app1,a_zero,Int.reduceToNat]
    rw [ht, vsC_app]
    refine RnL.app (k1 := []) (RnL.same vsC_flat (fun h => by cases h)) (.cons _ _ _ _ _ _ [1] [] ?_ (.nil _ _))
    exact rn_rsU rfl (by rw [List.length_map, h1])
  · obtain rfl : k = L.length := by omega
    rw [List.take_of_length_le (by rw [List.length_map]; exact Nat.le_refl _)]
    simp -dsimp(disch:=first|exact om|fail)only[go_sem,↓reduceIte,Nat.reduceEqDiff,Nat.reduceAdd,Nat.reduceSub,Nat.reduceMul,Nat.reduceLT,Nat.reduceLeDiff,reduceCtorEq,a_eq,a_neq,a_cast0,a_pred,a_app1,a_zero,Int.reduceToNat]
    exact RtG.nothing [some 0] lE (by decide) (by simp -dsimp(disch:=first|exact om|fail)only[go_sem,↓reduceIte,Nat.reduceEqDiff,Nat.reduceAdd,Nat.reduceSub,Nat.reduceMul,Nat.reduceLT,Nat.reduceLeDiff,reduceCtorEq,a_eq,a_neq,a_cast0,a_pred,a_app1,a_zero,Int.reduceToNat]; exact RnL.same vsC_flat (fun _ => vsC_nbu)) lW
theorem neg_good' {x : FQ} (h : x.good = true) : x.neg.good = true := by
  obtain ⟨r, hr⟩ := good_some h
  show (x.1.map (- ·)).isSome = true
  rw [hr]; rfl
theorem rowQ_all {c : Nat} {g : Nat → FQ} (h : ∀ j, j < c → (g j).good = true) : allG (rowQ c g) = true := by
  rw [allG_mem]
  intro x hx
  obtain ⟨k, hk, rfl⟩ := List.mem_map.1 hx
  exact h k (List.mem_range.1 hk)
theorem nulF_good {n c k : Nat} {p : List Int} {A : Nat → Nat → FQ} (hA : ∀ i j, i < n → j < c → (A i j).good = true) (hp : p.length ≤ n) (hk : k < c) (j : Nat) : (nulF p A k j).good = true := by
  unfold nulF
  split
  · rename_i i h
    have := (pix_some h).2.1
    exact neg_good' (hA i k (by omega) hk)
  · split
    · exact ofInt_good (by decide)
    · exact ofInt_good (by decide)
theorem nulK_lt {p : List Int} {c k : Nat} (h : k ∈ nulK p c) : k < c := by
  unfold nulK at h
  exact List.mem_range.1 (List.mem_filter.1 h).1
noncomputable def nvQ (r c : Nat) (M : Nat → Nat → FQ) : List (List RD) × Bool := match redTo r c M c with
  | some a => ((nulL a.piv a.M c c).map fun l => l.map qd, true)
  | none => ([], false)
noncomputable def nvR (m : MD) : List (List RD) × Bool := if m.ok = true then nvQ m.rows.toNat m.cols.toNat (m.at m.cols.toNat) else ([], false)
theorem nvR_ok {m : MD} {r c : Nat} (ho : m.ok = true) (hg : m.Good r c) : nvR m = nvQ r c (m.at c) := by
  unfold nvR
  rw [if_pos ho, hg.er, hg.ec]; rfl
theorem impl_NullVectors_g (m : MD) (f : Fl) (hf : f ≠ .u) (hs : smallL m.cells) : GC PP F_impl_NullVectors [mtV f m] [] (.tup [.rsl 0 1 0 (nvR m).1.length, Bo (nvR m).2]) [⟨.own, T_sl_impl_Rat, vsC .u .u (nvR m).1⟩] := by
  refine txg W_impl_NullVectors ke_impl_NullVectors 0 [] [] [] rfl (by kernel_rfl) ?_
  simp -dsimp(disch:=first|exact om|fail)only[go_sem,↓reduceIte,Nat.reduceEqDiff,Nat.reduceAdd,Nat.reduceSub,Nat.reduceMul,Nat.reduceLT,Nat.reduceLeDiff,reduceCtorEq,a_eq,a_neq,a_cast0,a_pred,a_app1,a_zero,Int.reduceToNat]
  cases ho : m.ok
  · rw [show nvR m = ([], false) by unfold nvR; rw [ho]; rfl]
    refine callB' (open_no m f hf ho hs) lB lF ?_
    simp -dsimp(disch:=first|exact om|fail)only[go_sem,↓reduceIte,Nat.reduceEqDiff,Nat.reduceAdd,Nat.reduceSub,Nat.reduceMul,Nat.reduceLT,Nat.reduceLeDiff,reduceCtorEq,a_eq,a_neq,a_cast0,a_pred,a_app1,a_zero,Int.reduceToNat]
    exact RtG.ren [none] [[]] trivial (by decide) (by simp -dsimp(disch:=first|exact om|fail)only[go_sem,↓reduceIte,Nat.reduceEqDiff,Nat.reduceAdd,Nat.reduceSub,Nat.reduceMul,Nat.reduceLT,Nat.reduceLeDiff,reduceCtorEq,a_eq,a_neq,a_cast0,a_pred,a_app1,a_zero,Int.reduceToNat]; rfl) lW
  · obtain ⟨r, c, hg⟩ := MD.ok_good ho
    rw [nvR_ok ho hg]
    have h24 := hg.r24
    have hc24 := hg.c24
    have hgd : ∀ i j, i < r → j < c → (m.at c i j).good = true := fun i j hi hj => (MD.at_ok hg hi hj).1
    have q := nulls_b r c h24 hc24 (m.at c) hgd
    refine callB' (open_ok m f hf r c hg hs) lB lF ?_
    simp -dsimp(disch:=first|exact om|fail)only[go_sem,↓reduceIte,Nat.reduceEqDiff,Nat.reduceAdd,Nat.reduceSub,Nat.reduceMul,Nat.reduceLT,Nat.reduceLeDiff,reduceCtorEq,a_eq,a_neq,a_cast0,a_pred,a_app1,a_zero,Int.reduceToNat]
    rcases e : redTo r c (m.at c) c with _ | a
    · rw [e] at q
      replace q : PB PP F_impl_grid_nulls [gV .b r c (m.at c)] (.tup [.emp, Bo false]) [] := q
      rw [show nvQ r c (m.at c) = ([], false) by unfold nvQ; rw [e]]
      refine callB' q lB lF ?_
      simp -dsimp(disch:=first|exact om|fail)only[go_sem,↓reduceIte,Nat.reduceEqDiff,Nat.reduceAdd,Nat.reduceSub,Nat.reduceMul,Nat.reduceLT,Nat.reduceLeDiff,reduceCtorEq,a_eq,a_neq,a_cast0,a_pred,a_app1,a_zero,Int.reduceToNat]
      exact RtG.ren [none] [[]] trivial (by decide) (by simp -dsimp(disch:=first|exact om|fail)only[go_sem,↓reduceIte,Nat.reduceEqDiff,Nat.reduceAdd,Nat.reduceSub,Nat.reduceMul,Nat.reduceLT,Nat.reduceLeDiff,reduceCtorEq,a_eq,a_neq,a_cast0,a_pred,a_app1,a_zero,Int.reduceToNat]; rfl) lW
    · rw [e] at q
      have hinv := redTo_inv hgd e
      rw [show nvQ r c (m.at c) = ((nulL a.piv a.M c c).map fun l => l.map qd, true) by unfold nvQ; rw [e]]
      have hL : (nulL a.piv a.M c c).length ≤ c := nulL_len
      have hr : ∀ l ∈ nulL a.piv a.M c c, l.length = c ∧ allG l = true := by
        intro l hl
        obtain ⟨k, hk, rfl⟩ := List.mem_map.1 hl
        exact ⟨rowQ_length, rowQ_all fun j _ => nulF_good hinv.good hinv.pl (nulK_lt hk) j⟩
      have hst := storesAll_g c hc24 (nulL a.piv a.M c c) (by omega) hr
      unfold nulV at q
      simp only at q
      generalize nulL a.piv a.M c c = L at *
      refine callB' q lB lF ?_
      simp -dsimp(disch:=first|exact om|fail)only[go_sem,↓reduceIte,Nat.reduceEqDiff,Nat.reduceAdd,Nat.reduceSub,Nat.reduceMul,Nat.reduceLT,Nat.reduceLeDiff,reduceCtorEq,a_eq,a_neq,a_cast0,a_pred,a_app1,a_zero,Int.reduceToNat]
      refine callO' hst (.cons _ _ _ _ (.sl _ _ _ _ _ _ ⟨rfl, rfl⟩ leL_rwCb) .nil) (by intro ob hob; simp only [List.mem_cons, List.not_mem_nil, or_false] at hob; subst hob; exact ⟨by simp, vsC_flat⟩) ?_
      simp -dsimp(disch:=first|exact om|fail)only[go_sem,↓reduceIte,Nat.reduceEqDiff,Nat.reduceAdd,Nat.reduceSub,Nat.reduceMul,Nat.reduceLT,Nat.reduceLeDiff,reduceCtorEq,a_eq,a_neq,a_cast0,a_pred,a_app1,a_zero,Int.reduceToNat]
      exact RtG.nothing [some 2] trivial (by decide) (by simp -dsimp(disch:=first|exact om|fail)only[go_sem,↓reduceIte,Nat.reduceEqDiff,Nat.reduceAdd,Nat.reduceSub,Nat.reduceMul,Nat.reduceLT,Nat.reduceLeDiff,reduceCtorEq,a_eq,a_neq,a_cast0,a_pred,a_app1,a_zero,Int.reduceToNat]; exact RnL.same vsC_flat (fun _ => vsC_nbu)) lW
end Go.Proofs.Ytgkimfncegbeaaa
