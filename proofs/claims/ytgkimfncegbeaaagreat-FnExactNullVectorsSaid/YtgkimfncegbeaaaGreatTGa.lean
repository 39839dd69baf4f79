/- part of the proof -/
import Derived.Test.YtgkimfncegbeaaaGreatTAut
namespace Go.Proofs.YtgkimfncegbeaaaGreat
open Go Go.RowKit
set_option maxRecDepth 100000
set_option linter.unusedVariables false
set_option linter.unusedSimpArgs false
theorem l01In_c (n lo hi : Int) : PC PP F_spec_l01In [I n, I lo, I hi] (Bo (decide (lo ≤ n ∧ n ≤ hi))) [] := by
  refine tx W_spec_l01In ke_spec_l01In [] (by kernel_rfl) ?_
  simp -dsimp only [go_sem,↓reduceIte,Nat.reduceEqDiff,Nat.reduceAdd,Nat.reduceSub,Nat.reduceMul,Nat.reduceLT,Nat.reduceLeDiff,reduceCtorEq]
  refine ⟨fun h => ?_, fun h => ?_⟩
  · simp [h]
  · simp [h]
def inB (lo hi : Int) (l : List Int) : Bool := l.all fun n => decide (lo ≤ n ∧ n ≤ hi)
theorem all_take_succ {p : Int → Bool} {l : List Int} {k : Nat} (h : k < l.length) : (l.take (k + 1)).all p = ((l.take k).all p && p (l.getD k 0)) := by
  rw [List.take_succ_eq_append_getElem h, List.all_append]
  simp [h]
theorem all_get {p : Int → Bool} {l : List Int} {k : Nat} (h : k < l.length) (hl : l.all p = true) : p (l.getD k 0) = true := by
  have := List.all_eq_true.1 hl l[k] (List.getElem_mem h)
  simpa [h] using this
structure Prg where
  rows : Int
  cols : Int
  a : List Int
  b : List Int
  c : List Int
def Prg.small (p : Prg) : Prop := p.a.length ≤ 1048576 ∧ p.b.length ≤ 1048576 ∧ p.c.length ≤ 1048576
def szI (n : Int) (k : Nat) : Int := if n - k < 0 then -1 else n - k
theorem szI_rng {n : Int} {k : Nat} (h : n ≤ 1048576) : -1 ≤ szI n k ∧ szI n k ≤ 1048576 := by unfold szI; split <;> omega
theorem szI_nn {n : Int} {k : Nat} (h : 0 ≤ szI n k) : (k : Int) ≤ n := by unfold szI at h; split at h <;> omega
theorem szIntS_c (f : Fl) (hf : f ≠ .u) (l : List Int) (n : Int) (hl : l.length ≤ 9223372036854775807) (hn : -1 ≤ n ∧ n ≤ 1048576) : PC PP F_laws_szIntS [sI f l, I n] (I (szI n l.length)) [] := by
  refine tx W_laws_szIntS ke_laws_szIntS [] (by kernel_rfl) ?_
  simp -dsimp only [go_sem,↓reduceIte,Nat.reduceEqDiff,Nat.reduceAdd,Nat.reduceSub,Nat.reduceMul,Nat.reduceLT,Nat.reduceLeDiff,reduceCtorEq]
  unfold szI
  rw [w64 (by omega)]
  exact ⟨fun h => by rw [if_pos h], fun h => by rw [if_neg h]⟩
def ixB (p : Int → Bool) (l : List Int) : Int := if l.any p = true then (l.findIdx p : Nat) else -1
theorem any_take_succ {p : Int → Bool} {l : List Int} {k : Nat} (h : k < l.length) : (l.take (k + 1)).any p = ((l.take k).any p || p (l.getD k 0)) := by
  rw [List.take_succ_eq_append_getElem h, List.any_append]
  simp [h]
theorem indexI_c (f : Fl) (hf : f ≠ .u) (l : List Int) (hl : l.length ≤ 1048576) (g : FuncId) (p : Int → Bool) (hg : ∀ n, PC PP g [I n] (Bo (p n)) []) :
    PC PP F_slices_IndexFunc_int_int [sI f l, .fn (.func g) [] []] (I (ixB p l)) [] := by
  refine tx W_slices_IndexFunc_int_int ke_slices_IndexFunc_int_int [] (by kernel_rfl) ?_
  simp -dsimp only [go_sem,↓reduceIte,Nat.reduceEqDiff,Nat.reduceAdd,Nat.reduceSub,Nat.reduceMul,Nat.reduceLT,Nat.reduceLeDiff,reduceCtorEq]
  refine loopI (fun k : Nat => k ≤ l.length ∧ (l.take k).any p = false) (fun k => ⟨[(0, sI f l), (1, .fn (.func g) [] []), (7, I l.length), (8, I k)], []⟩) (fun k => l.length - k) 0 ⟨by omega, rfl⟩ ?_ ?_
  · simp -dsimp only [go_sem,↓reduceIte,Nat.reduceEqDiff,Nat.reduceAdd,Nat.reduceSub,Nat.reduceMul,Nat.reduceLT,Nat.reduceLeDiff,reduceCtorEq]; simp
  intro k ⟨hk, hp⟩
  simp -dsimp only [go_sem,↓reduceIte,Nat.reduceEqDiff,Nat.reduceAdd,Nat.reduceSub,Nat.reduceMul,Nat.reduceLT,Nat.reduceLeDiff,reduceCtorEq]
  refine ⟨fun h => ⟨by omega, h, by omega, ?_⟩, fun h => ?_⟩
  · have hk' : k < l.length := by omega
    rw [iC_get hk']
    simp -dsimp only [go_sem,↓reduceIte,Nat.reduceEqDiff,Nat.reduceAdd,Nat.reduceSub,Nat.reduceMul,Nat.reduceLT,Nat.reduceLeDiff,reduceCtorEq]
    refine callP (hg _) (by repeat' constructor) ?_
    simp -dsimp only [go_sem,↓reduceIte,Nat.reduceEqDiff,Nat.reduceAdd,Nat.reduceSub,Nat.reduceMul,Nat.reduceLT,Nat.reduceLeDiff,reduceCtorEq]
    refine ⟨fun h => ?_, fun h => ⟨k + 1, ⟨by omega, ?_⟩, by omega, ?_⟩⟩
    · have ha : l.any p = true := by
        refine List.any_eq_true.2 ⟨l[k], List.getElem_mem hk', ?_⟩
        simpa [hk'] using h
      unfold ixB
      rw [if_pos ha]
      have : l.findIdx p = k := by
        rw [List.findIdx_eq hk']
        refine ⟨by simpa [hk'] using h, fun j hj => ?_⟩
        have hj' : j < (l.take k).length := by rw [List.length_take]; omega
        have := List.any_eq_false.1 hp (l.take k)[j] (List.getElem_mem hj')
        simpa using this
      rw [this]
    · rw [any_take_succ hk', hp, h]; rfl
    · rw [w64 (by omega)]; omega
  · have : k = l.length := by omega
    subst this
    rw [List.take_length] at hp
    unfold ixB
    rw [hp]; rfl
theorem containsI_c (f : Fl) (hf : f ≠ .u) (l : List Int) (hl : l.length ≤ 1048576) (g : FuncId) (p : Int → Bool) (hg : ∀ n, PC PP g [I n] (Bo (p n)) []) :
    PC PP F_slices_ContainsFunc_int_int [sI f l, .fn (.func g) [] []] (Bo (l.any p)) [] := by
  refine tx W_slices_ContainsFunc_int_int ke_slices_ContainsFunc_int_int [] (by kernel_rfl) ?_
  simp -dsimp only [go_sem,↓reduceIte,Nat.reduceEqDiff,Nat.reduceAdd,Nat.reduceSub,Nat.reduceMul,Nat.reduceLT,Nat.reduceLeDiff,reduceCtorEq]
  refine callP (indexI_c f hf l hl g p hg) ?_ ?_
  · simp -dsimp only [go_sem,↓reduceIte,Nat.reduceEqDiff,Nat.reduceAdd,Nat.reduceSub,Nat.reduceMul,Nat.reduceLT,Nat.reduceLeDiff,reduceCtorEq, hf]
  simp -dsimp only [go_sem,↓reduceIte,Nat.reduceEqDiff,Nat.reduceAdd,Nat.reduceSub,Nat.reduceMul,Nat.reduceLT,Nat.reduceLeDiff,reduceCtorEq]
  unfold ixB
  cases l.any p with
  | true => simp
  | false => simp
theorem fill_step {α : Type} {l : List α} {k : Nat} {z : α} (h : k < l.length) : (l.take k ++ List.replicate (l.length - k) z).set k (l.getD k z) = l.take (k + 1) ++ List.replicate (l.length - (k + 1)) z := by
  have e : l.length - k = (l.length - (k + 1)) + 1 := by omega
  rw [e, List.replicate_succ, List.set_append_right _ _ (by rw [List.length_take]; omega), List.length_take, Nat.min_eq_left (by omega), Nat.sub_self, List.set_cons_zero, List.take_succ_eq_append_getElem h, List.append_assoc, List.singleton_append]
  simp [h]
theorem take_eq_succ {l m : List Int} {k : Nat} (hl : k < l.length) (hm : k < m.length) (h : l.take k = m.take k) (he : l.getD k 0 = m.getD k 0) : l.take (k + 1) = m.take (k + 1) := by
  rw [List.take_succ_eq_append_getElem hl, List.take_succ_eq_append_getElem hm, h]
  simp [hl, hm] at he
  rw [he]
theorem toIntS_c (f : Fl) (hf : f ≠ .u) (l : List Int) (hl : l.length ≤ 1048576) : PC PP F_laws_toIntS [sI f l] (sI .s l) [] := by
  refine tx W_laws_toIntS ke_laws_toIntS [] (by kernel_rfl) ?_
  simp -dsimp only [go_sem,↓reduceIte,Nat.reduceEqDiff,Nat.reduceAdd,Nat.reduceSub,Nat.reduceMul,Nat.reduceLT,Nat.reduceLeDiff,reduceCtorEq, hf]
  refine ⟨by omega, by omega, by omega, ?_⟩
  rw [iC_zero]
  refine loopI (fun k : Nat => k ≤ l.length) (fun k => ⟨[(0, sI f l), (3, .rsl 0 1 0 l.length), (4, I k)], [⟨.own, T_int, iC (l.take k ++ List.replicate (l.length - k) 0)⟩]⟩) (fun k => l.length - k) 0 (by omega) ?_ ?_
  · simp -dsimp only [go_sem,↓reduceIte,Nat.reduceEqDiff,Nat.reduceAdd,Nat.reduceSub,Nat.reduceMul,Nat.reduceLT,Nat.reduceLeDiff,reduceCtorEq]; simp
  intro k hk
  simp -dsimp only [go_sem,↓reduceIte,Nat.reduceEqDiff,Nat.reduceAdd,Nat.reduceSub,Nat.reduceMul,Nat.reduceLT,Nat.reduceLeDiff,reduceCtorEq, hf]
  refine ⟨fun h => ⟨by omega, h, by omega, ?_⟩, fun h => ?_⟩
  · have hk' : k < l.length := by omega
    rw [iC_get hk']
    simp -dsimp only [go_sem,↓reduceIte,Nat.reduceEqDiff,Nat.reduceAdd,Nat.reduceSub,Nat.reduceMul,Nat.reduceLT,Nat.reduceLeDiff,reduceCtorEq]
    refine ⟨by omega, h, by rw [List.length_replicate]; omega, k + 1, by omega, by omega, by rw [w64 (by omega)]; omega, ?_⟩
    have e := iC_set (l := l.take k ++ List.replicate (l.length - k) 0) (i := k) (v := l.getD k 0) (by rw [List.length_append, List.length_take, List.length_replicate]; omega)
    rw [e, vkL_iC, fill_step hk']
  · have : k = l.length := by omega
    subst this
    exact Le.ownI0 (ty := T_int) (by simp) rfl
theorem eqIntS_c (f g : Fl) (hf : f ≠ .u) (hg : g ≠ .u) (l m : List Int) (hl : l.length ≤ 1048576) : PC PP F_laws_eqIntS [sI f l, sI g m] (Bo (decide (l = m))) [] := by
  refine tx W_laws_eqIntS ke_laws_eqIntS [] (by kernel_rfl) ?_
  simp -dsimp only [go_sem,↓reduceIte,Nat.reduceEqDiff,Nat.reduceAdd,Nat.reduceSub,Nat.reduceMul,Nat.reduceLT,Nat.reduceLeDiff,reduceCtorEq, hf]
  refine ⟨fun h => ?_, fun h => ?_⟩
  · have : l ≠ m := by rintro rfl; exact h rfl
    simp [this]
  have hlm : l.length = m.length := by omega
  refine loopI (fun k : Nat => k ≤ l.length ∧ l.take k = m.take k) (fun k => ⟨[(0, sI f l), (1, sI g m), (5, I k)], []⟩) (fun k => l.length - k) 0 ⟨by omega, rfl⟩ ?_ ?_
  · simp -dsimp only [go_sem,↓reduceIte,Nat.reduceEqDiff,Nat.reduceAdd,Nat.reduceSub,Nat.reduceMul,Nat.reduceLT,Nat.reduceLeDiff,reduceCtorEq]; simp
  intro k ⟨hk, hp⟩
  simp -dsimp only [go_sem,↓reduceIte,Nat.reduceEqDiff,Nat.reduceAdd,Nat.reduceSub,Nat.reduceMul,Nat.reduceLT,Nat.reduceLeDiff,reduceCtorEq, hf]
  refine ⟨fun h => ⟨by omega, h, by omega, ?_⟩, fun h => ?_⟩
  · have hk' : k < l.length := by omega
    have hm' : k < m.length := by omega
    rw [iC_get hk']
    simp -dsimp only [go_sem,↓reduceIte,Nat.reduceEqDiff,Nat.reduceAdd,Nat.reduceSub,Nat.reduceMul,Nat.reduceLT,Nat.reduceLeDiff,reduceCtorEq]
    refine ⟨by omega, by omega, by omega, ?_⟩
    rw [iC_get hm']
    simp -dsimp only [go_sem,↓reduceIte,Nat.reduceEqDiff,Nat.reduceAdd,Nat.reduceSub,Nat.reduceMul,Nat.reduceLT,Nat.reduceLeDiff,reduceCtorEq]
    refine ⟨fun h => ?_, fun h => ⟨k + 1, ⟨by omega, ?_⟩, by omega, ?_⟩⟩
    · have : l ≠ m := by rintro rfl; exact h rfl
      simp [this]
    · exact take_eq_succ hk' hm' hp (by simpa using h)
    · rw [w64 (by omega)]; omega
  · have : k = l.length := by omega
    subst this
    rw [List.take_length, hlm, List.take_length] at hp
    simp [hp]
end Go.Proofs.YtgkimfncegbeaaaGreat
namespace Go.Proofs.YtgkimfncegbeaaaGreat
open Go Go.RowKit
set_option maxRecDepth 100000
set_option linter.unusedVariables false
set_option linter.unusedSimpArgs false
def marks (k : Int) (n : Nat) : List Int := (List.range n).map fun i => k + (i : Nat)
@[simp, go_sem] theorem marks_length {k : Int} {n : Nat} : (marks k n).length = n := by simp [marks]
theorem marks_succ {k : Int} {n : Nat} : marks k (n + 1) = marks k n ++ [k + n] := by simp [marks, List.range_succ]
@[simp] theorem marks_zero {k : Int} : marks k 0 = [] := rfl
theorem mark_step {k : Int} {i : Nat} {l : List Int} (h : i < l.length) : (marks k i ++ l.drop i).set i (k + i) = marks k (i + 1) ++ l.drop (i + 1) := by
  rw [List.set_append_right _ _ (by rw [marks_length]; omega), marks_length, Nat.sub_self, List.drop_eq_getElem_cons h, List.set_cons_zero, marks_succ, List.append_assoc]; rfl
theorem markIntS_c (ty : TypeId) (l : List Int) (k : Int) (hl : l.length ≤ 4194304) (hk : 0 ≤ k ∧ k ≤ 1000000000000) :
    GC PP F_laws_markIntS [.rsl 0 1 0 l.length, I k] [⟨.own, ty, iC l⟩] (I (k + l.length)) [⟨.own, ty, iC (marks k l.length)⟩] := by
  refine txg W_laws_markIntS ke_laws_markIntS 1 [] [] [] rfl (by kernel_rfl) ?_
  simp -dsimp only [go_sem,↓reduceIte,Nat.reduceEqDiff,Nat.reduceAdd,Nat.reduceSub,Nat.reduceMul,Nat.reduceLT,Nat.reduceLeDiff,reduceCtorEq]
  refine loopI (fun i : Nat => i ≤ l.length) (fun i => ⟨[(0, .rsl 0 1 0 l.length), (1, I (k + i)), (5, I i)], [⟨.own, ty, iC (marks k i ++ l.drop i)⟩]⟩) (fun i => l.length - i) 0 (by omega) ?_ ?_
  · simp -dsimp only [go_sem,↓reduceIte,Nat.reduceEqDiff,Nat.reduceAdd,Nat.reduceSub,Nat.reduceMul,Nat.reduceLT,Nat.reduceLeDiff,reduceCtorEq]
    simp
  intro i hi
  simp -dsimp only [go_sem,↓reduceIte,Nat.reduceEqDiff,Nat.reduceAdd,Nat.reduceSub,Nat.reduceMul,Nat.reduceLT,Nat.reduceLeDiff,reduceCtorEq]
  refine ⟨fun h => ⟨by omega, h, by omega, i + 1, by omega, by omega, ⟨by rw [w64 (by omega)]; omega, by rw [w64 (by omega)]; omega⟩, ?_⟩, fun h => ?_⟩
  · rw [iC_set (by simp; omega), mark_step (by omega), vkL_iC]
  · have : i = l.length := by omega
    subst this
    rw [List.drop_length, List.append_nil]
    exact RtG.nothing [some 0] lE (by decide) lS lE
def heldI (l : List Int) (k : Int) : Int := if l = marks k l.length then k + l.length else -1
theorem heldI_marks {k : Int} {n : Nat} : heldI (marks k n) k = k + n := by simp [heldI]
theorem heldIntS_c (f : Fl) (hf : f ≠ .u) (l : List Int) (k : Int) (hl : l.length ≤ 4194304) (hk : 0 ≤ k ∧ k ≤ 1000000000000) : PC PP F_laws_heldIntS [sI f l, I k] (I (heldI l k)) [] := by
  refine tx W_laws_heldIntS ke_laws_heldIntS [] (by kernel_rfl) ?_
  simp -dsimp only [go_sem,↓reduceIte,Nat.reduceEqDiff,Nat.reduceAdd,Nat.reduceSub,Nat.reduceMul,Nat.reduceLT,Nat.reduceLeDiff,reduceCtorEq]
  refine loopI (fun i : Nat => i ≤ l.length ∧ l.take i = marks k i) (fun i => ⟨[(0, sI f l), (1, I (k + i)), (5, I i)], []⟩) (fun i => l.length - i) 0 ⟨by omega, rfl⟩ ?_ ?_
  · simp -dsimp only [go_sem,↓reduceIte,Nat.reduceEqDiff,Nat.reduceAdd,Nat.reduceSub,Nat.reduceMul,Nat.reduceLT,Nat.reduceLeDiff,reduceCtorEq]; simp
  intro i ⟨hi, hp⟩
  simp -dsimp only [go_sem,↓reduceIte,Nat.reduceEqDiff,Nat.reduceAdd,Nat.reduceSub,Nat.reduceMul,Nat.reduceLT,Nat.reduceLeDiff,reduceCtorEq]
  refine ⟨fun h => ⟨by omega, h, by omega, ?_⟩, fun h => ?_⟩
  · have hi' : i < l.length := by omega
    rw [iC_get hi']
    simp -dsimp only [go_sem,↓reduceIte,Nat.reduceEqDiff,Nat.reduceAdd,Nat.reduceSub,Nat.reduceMul,Nat.reduceLT,Nat.reduceLeDiff,reduceCtorEq]
    refine ⟨fun h => ?_, fun h => ⟨i + 1, ⟨by omega, ?_⟩, by omega, by rw [w64 (by omega)]; omega, by rw [w64 (by omega)]; omega⟩⟩
    · unfold heldI
      rw [if_neg]
      intro e
      apply h
      have h1 : l.getD i 0 = (marks k l.length).getD i 0 := by rw [← e]
      rw [h1]; simp [marks, hi']
    · rw [List.take_succ_eq_append_getElem hi', hp, marks_succ]
      simp only [hi', List.getD_eq_getElem?_getD, List.getElem?_eq_getElem, Option.getD_some, Decidable.not_not] at h
      rw [h]
  · have : i = l.length := by omega
    subst this
    rw [List.take_length] at hp
    unfold heldI
    rw [if_pos hp]
theorem toIntSO_c (f : Fl) (hf : f ≠ .u) (l : List Int) (hl : l.length ≤ 4194304) : GC PP F_laws_toIntS [sI f l] [] (.rsl 0 1 0 l.length) [⟨.own, T_int, iC l⟩] := by
  refine txg W_laws_toIntS ke_laws_toIntS 0 [] [] [] rfl (by kernel_rfl) ?_
  simp -dsimp only [go_sem,↓reduceIte,Nat.reduceEqDiff,Nat.reduceAdd,Nat.reduceSub,Nat.reduceMul,Nat.reduceLT,Nat.reduceLeDiff,reduceCtorEq, hf]
  refine ⟨by omega, by omega, by omega, ?_⟩
  rw [iC_zero]
  refine loopI (fun k : Nat => k ≤ l.length) (fun k => ⟨[(0, sI f l), (3, .rsl 0 1 0 l.length), (4, I k)], [⟨.own, T_int, iC (l.take k ++ List.replicate (l.length - k) 0)⟩]⟩) (fun k => l.length - k) 0 (by omega) ?_ ?_
  · simp -dsimp only [go_sem,↓reduceIte,Nat.reduceEqDiff,Nat.reduceAdd,Nat.reduceSub,Nat.reduceMul,Nat.reduceLT,Nat.reduceLeDiff,reduceCtorEq]; simp
  intro k hk
  simp -dsimp only [go_sem,↓reduceIte,Nat.reduceEqDiff,Nat.reduceAdd,Nat.reduceSub,Nat.reduceMul,Nat.reduceLT,Nat.reduceLeDiff,reduceCtorEq, hf]
  refine ⟨fun h => ⟨by omega, h, by omega, ?_⟩, fun h => ?_⟩
  · have hk' : k < l.length := by omega
    rw [iC_get hk']
    simp -dsimp only [go_sem,↓reduceIte,Nat.reduceEqDiff,Nat.reduceAdd,Nat.reduceSub,Nat.reduceMul,Nat.reduceLT,Nat.reduceLeDiff,reduceCtorEq]
    refine ⟨by omega, h, by rw [List.length_replicate]; omega, k + 1, by omega, by omega, by rw [w64 (by omega)]; omega, ?_⟩
    have e := iC_set (l := l.take k ++ List.replicate (l.length - k) 0) (i := k) (v := l.getD k 0) (by rw [List.length_append, List.length_take, List.length_replicate]; omega)
    rw [e, vkL_iC, fill_step hk']
  · have : k = l.length := by omega
    subst this
    simp only [List.take_length, Nat.sub_self, List.replicate_zero, List.append_nil]
    exact RtG.nothing [some 0] lE (by decide) lS lE
def Prg.len (p : Prg) : Nat := p.a.length + p.b.length + p.c.length
end Go.Proofs.YtgkimfncegbeaaaGreat
namespace Go.Proofs.YtgkimfncegbeaaaGreat
open Go Go.RowKit
set_option maxRecDepth 100000
set_option linter.unusedVariables false
set_option linter.unusedSimpArgs false
structure RD where
  neg : Bool
  mag : List Int
  den : List Int
deriving DecidableEq
def RD.zero : RD := ⟨false, [], []⟩
def RD.sz (r : RD) : Nat := r.mag.length + r.den.length
abbrev bC (f : Fl) (b : Bool) (m : List Int) : List V := [Bo b, sI f m]
def rdC (f : Fl) (r : RD) : List V := [Bo r.neg, sI f r.mag, sI f r.den]
abbrev rV (f : Fl) (r : RD) : V := .agg (rdC f r)
def rsC (f : Fl) (l : List RD) : List V := l.flatMap (rdC f)
abbrev sR (f : Fl) (l : List RD) : V := .sl f 3 l.length (rsC f l)
@[go_sem] theorem rdC_eq {f : Fl} {r : RD} : rdC f r = [Bo r.neg, sI f r.mag, sI f r.den] := rfl
@[go_sem] theorem rsC_length {f : Fl} {l : List RD} : (rsC f l).length = l.length * 3 := by
  unfold rsC
  induction l with
  | nil => rfl
  | cons r l ih => rw [List.flatMap_cons, List.length_append, ih, List.length_cons]; simp [rdC]; omega
theorem rsC_cons {f : Fl} {r : RD} {l : List RD} : rsC f (r :: l) = rdC f r ++ rsC f l := rfl
theorem rsC_append {f : Fl} {l m : List RD} : rsC f (l ++ m) = rsC f l ++ rsC f m := by simp [rsC]
theorem rsC_drop {f : Fl} : ∀ {l : List RD} {i : Nat}, (rsC f l).drop (i * 3) = rsC f (l.drop i)
  | l, 0 => by simp
  | [], i + 1 => by simp [rsC]
  | r :: l, i + 1 => by
    rw [rsC_cons, List.drop_succ_cons, ← rsC_drop (l := l) (i := i), show (i + 1) * 3 = i * 3 + 1 + 1 + 1 by omega]
    rfl
theorem rsC_take {f : Fl} : ∀ {l : List RD} {i : Nat}, (rsC f l).take (i * 3) = rsC f (l.take i)
  | l, 0 => by simp [rsC]
  | [], i + 1 => by simp [rsC]
  | r :: l, i + 1 => by
    rw [rsC_cons, List.take_succ_cons, rsC_cons, ← rsC_take (l := l) (i := i), show (i + 1) * 3 = i * 3 + 1 + 1 + 1 by omega]
    rfl
theorem rs_at {f : Fl} {l : List RD} {i : Nat} (h : i < l.length) : (rsC f l).drop (i * 3) = Bo (l[i]).neg :: sI f (l[i]).mag :: sI f (l[i]).den :: rsC f (l.drop (i + 1)) := by
  rw [rsC_drop, List.drop_eq_getElem_cons h]; rfl
theorem rs_take {f : Fl} {l : List RD} {i : Nat} (h : i < l.length) : ((rsC f l).drop (i * 3)).take 3 = rdC f l[i] := by
  rw [rs_at h]; rfl
theorem rsC_mem {f : Fl} {l : List RD} {c : V} (h : c ∈ rsC f l) : ∃ r ∈ l, c ∈ rdC f r := by
  unfold rsC at h
  obtain ⟨r, h1, h2⟩ := List.mem_flatMap.1 h
  exact ⟨r, h1, h2⟩
theorem rsC_all {f : Fl} {p : V → Prop} (h1 : ∀ b, p (Bo b)) (h2 : ∀ l, p (sI f l)) {l : List RD} : ∀ c ∈ rsC f l, p c := by
  intro c hc
  obtain ⟨r, _, h⟩ := rsC_mem hc
  unfold rdC at h
  simp only [List.mem_cons, List.not_mem_nil, or_false] at h
  rcases h with rfl | rfl | rfl
  · exact h1 _
  · exact h2 _
  · exact h2 _
@[go_sem] theorem flat_rsC {f : Fl} {l : List RD} : (∀ c ∈ rsC f l, c.flat) = True := by
  apply propext; exact ⟨fun _ => trivial, fun _ => rsC_all (fun _ => trivial) (fun _ => trivial)⟩
theorem cl_rsC {l : List RD} : ∀ c ∈ rsC .s l, c.cl := rsC_all (fun _ => trivial) (fun _ => trivial)
theorem szI_szI {n : Int} {a b : Nat} (h : ¬ szI n a < 0) : szI (szI n a) b = szI n (a + b) := by
  unfold szI at *
  split at h
  · omega
  · rename_i h1
    rw [if_neg h1]
    push_cast
    rw [Int.sub_sub]
theorem szI_neg {n : Int} {a b : Nat} (h : szI n a < 0) : szI n (a + b) = -1 := by
  unfold szI at *
  split at h
  · rw [if_pos (by push_cast; omega)]
  · omega
theorem szI_neg' {n : Int} {a : Nat} (h : szI n a < 0) : szI n a = -1 := by
  unfold szI at *
  split at h
  · rename_i h1; rw [if_pos h1]
  · omega
theorem szBigInt_c (f : Fl) (hf : f ≠ .u) (b : Bool) (m : List Int) (n : Int) (hl : m.length ≤ 9223372036854775807) (hn : -1 ≤ n ∧ n ≤ 1048576) : PC PP F_laws_szBigInt [.agg (bC f b m), I n] (I (szI n m.length)) [] := by
  refine tx W_laws_szBigInt ke_laws_szBigInt [] (by kernel_rfl) ?_
  simp -dsimp only [go_sem,↓reduceIte,Nat.reduceEqDiff,Nat.reduceAdd,Nat.reduceSub,Nat.reduceMul,Nat.reduceLT,Nat.reduceLeDiff,reduceCtorEq, hf]
  refine callP (szIntS_c f hf m n hl hn) (by simp -dsimp only [go_sem,↓reduceIte,Nat.reduceEqDiff,Nat.reduceAdd,Nat.reduceSub,Nat.reduceMul,Nat.reduceLT,Nat.reduceLeDiff,reduceCtorEq, hf]) ?_
  simp -dsimp only [go_sem,↓reduceIte,Nat.reduceEqDiff,Nat.reduceAdd,Nat.reduceSub,Nat.reduceMul,Nat.reduceLT,Nat.reduceLeDiff,reduceCtorEq, hf]
  exact fun h => (szI_neg' h).symm
theorem szRat_c (f : Fl) (hf : f ≠ .u) (r : RD) (n : Int) (hl : r.mag.length ≤ 9223372036854775807 ∧ r.den.length ≤ 9223372036854775807) (hn : -1 ≤ n ∧ n ≤ 1048576) : PC PP F_laws_szRat [rV f r, I n] (I (szI n r.sz)) [] := by
  obtain ⟨b, m, d⟩ := r
  unfold RD.sz
  simp only at hl ⊢
  have hr := szI_rng (n := n) (k := m.length) hn.2
  refine tx W_laws_szRat ke_laws_szRat [] (by kernel_rfl) ?_
  simp -dsimp only [go_sem,↓reduceIte,Nat.reduceEqDiff,Nat.reduceAdd,Nat.reduceSub,Nat.reduceMul,Nat.reduceLT,Nat.reduceLeDiff,reduceCtorEq, hf]
  refine callP (szBigInt_c f hf b m n hl.1 hn) (by simp -dsimp only [go_sem,↓reduceIte,Nat.reduceEqDiff,Nat.reduceAdd,Nat.reduceSub,Nat.reduceMul,Nat.reduceLT,Nat.reduceLeDiff,reduceCtorEq, hf]) ?_
  simp -dsimp only [go_sem,↓reduceIte,Nat.reduceEqDiff,Nat.reduceAdd,Nat.reduceSub,Nat.reduceMul,Nat.reduceLT,Nat.reduceLeDiff,reduceCtorEq, hf]
  refine ⟨fun h => (szI_neg h).symm, fun h => ?_⟩
  refine callP (szIntS_c f hf d (szI n m.length) hl.2 hr) (by simp -dsimp only [go_sem,↓reduceIte,Nat.reduceEqDiff,Nat.reduceAdd,Nat.reduceSub,Nat.reduceMul,Nat.reduceLT,Nat.reduceLeDiff,reduceCtorEq, hf]) ?_
  simp -dsimp only [go_sem,↓reduceIte,Nat.reduceEqDiff,Nat.reduceAdd,Nat.reduceSub,Nat.reduceMul,Nat.reduceLT,Nat.reduceLeDiff,reduceCtorEq, hf]
  rw [szI_szI h]
  exact ⟨fun h => (szI_neg' h).symm, fun _ => rfl⟩
def szS : List RD → Nat
  | [] => 0
  | r :: l => r.sz + szS l
def szL (l : List RD) : Nat := l.length + szS l
theorem szS_append {l m : List RD} : szS (l ++ m) = szS l + szS m := by
  induction l with
  | nil => simp [szS]
  | cons r l ih => simp only [List.cons_append, szS, ih]; omega
theorem szS_take {l : List RD} {i : Nat} (h : i < l.length) : szS (l.take (i + 1)) = szS (l.take i) + (l[i]).sz := by
  rw [List.take_succ_eq_append_getElem h, szS_append]; simp [szS]
theorem szS_le {l : List RD} {i : Nat} : szS (l.take i) ≤ szS l := by
  have h : szS l = szS (l.take i) + szS (l.drop i) := by rw [← szS_append, List.take_append_drop]
  omega
theorem sz_le {l : List RD} {r : RD} (h : r ∈ l) : r.sz ≤ szS l := by
  induction l with
  | nil => simp at h
  | cons a l ih =>
    rcases List.mem_cons.1 h with rfl | h
    · simp only [szS]; omega
    · have := ih h; simp only [szS]; omega
def RD.fit (r : RD) : Prop := r.mag.length ≤ 9223372036854775807 ∧ r.den.length ≤ 9223372036854775807
def fitL (l : List RD) : Prop := l.length ≤ 9223372036854775807 ∧ ∀ r ∈ l, r.fit
theorem szI_le {n : Int} {a b : Nat} (h : szI n a < 0) (hab : a ≤ b) : szI n b = -1 := by
  unfold szI at *
  split at h
  · rw [if_pos (by omega)]
  · omega
theorem szI_small {n : Int} {a : Nat} (hn : n ≤ 1048576) (h : 0 ≤ szI n a) : a ≤ 1048576 := by have := szI_nn h; omega
theorem szRatS_c (f : Fl) (hf : f ≠ .u) (l : List RD) (n : Int) (hl : fitL l) (hn : -1 ≤ n ∧ n ≤ 1048576) : PC PP F_laws_szRatS [sR f l, I n] (I (szI n (szL l))) [] := by
  obtain ⟨h1, h2⟩ := hl
  refine tx W_laws_szRatS ke_laws_szRatS [] (by kernel_rfl) ?_
  simp -dsimp only [go_sem,↓reduceIte,Nat.reduceEqDiff,Nat.reduceAdd,Nat.reduceSub,Nat.reduceMul,Nat.reduceLT,Nat.reduceLeDiff,reduceCtorEq, hf]
  rw [w64 (n := n - l.length) (by omega)]
  have e0 : n - l.length < 0 → szI n (szL l) = -1 := fun h => szI_le (a := l.length) (by unfold szI; rw [if_pos h]; omega) (by unfold szL; omega)
  refine ⟨fun h => (e0 h).symm, fun h0 => ?_⟩
  have e1 : n - l.length = szI n l.length := by unfold szI; rw [if_neg h0]
  refine loopI (fun i : Nat => i ≤ l.length ∧ 0 ≤ szI n (l.length + szS (l.take i))) (fun i => ⟨[(0, sR f l), (1, I (szI n (l.length + szS (l.take i)))), (5, I i)], []⟩) (fun i => l.length - i) 0 ⟨by omega, by simp [szS]; omega⟩ ?_ ?_
  · simp -dsimp only [go_sem,↓reduceIte,Nat.reduceEqDiff,Nat.reduceAdd,Nat.reduceSub,Nat.reduceMul,Nat.reduceLT,Nat.reduceLeDiff,reduceCtorEq]
    simp [szS, e1]
  intro i ⟨hi, hp⟩
  simp -dsimp only [go_sem,↓reduceIte,Nat.reduceEqDiff,Nat.reduceAdd,Nat.reduceSub,Nat.reduceMul,Nat.reduceLT,Nat.reduceLeDiff,reduceCtorEq, hf]
  refine ⟨fun h => ⟨by omega, h, by omega, ?_⟩, fun h => ?_⟩
  · have hi' : i < l.length := by omega
    rw [rs_take hi']
    refine callP (szRat_c f hf l[i] (szI n (l.length + szS (l.take i))) (h2 _ (List.getElem_mem hi')) ⟨by omega, (szI_rng hn.2).2⟩) (by simp -dsimp only [go_sem,↓reduceIte,Nat.reduceEqDiff,Nat.reduceAdd,Nat.reduceSub,Nat.reduceMul,Nat.reduceLT,Nat.reduceLeDiff,reduceCtorEq, hf]) ?_
    rw [szI_szI (n := n) (a := l.length + szS (l.take i)) (by omega)]
    simp -dsimp only [go_sem,↓reduceIte,Nat.reduceEqDiff,Nat.reduceAdd,Nat.reduceSub,Nat.reduceMul,Nat.reduceLT,Nat.reduceLeDiff,reduceCtorEq, hf]
    have e2 : l.length + szS (l.take i) + (l[i]).sz = l.length + szS (l.take (i + 1)) := by rw [szS_take hi']; omega
    rw [e2]
    refine ⟨fun h => (szI_le h (by have := szS_le (l := l) (i := i + 1); unfold szL; omega)).symm, fun h => ⟨i + 1, ⟨by omega, by omega⟩, by omega, rfl, by rw [w64 (by omega)]; omega⟩⟩
  · have : i = l.length := by omega
    subst this
    rw [List.take_length]; rfl
theorem leL_rsC {H : List Ob} {f g g' : Fl} (h : ∀ m, Le H f (sI g m) (sI g' m)) : ∀ {l : List RD}, LeL H f (rsC g l) (rsC g' l)
  | [] => .nil
  | r :: l => .cons _ _ _ _ (.lit _) (.cons _ _ _ _ (h _) (.cons _ _ _ _ (h _) (leL_rsC h)))
theorem Le.slU {H : List Ob} {f : Fl} {l : List Int} : Le H f (sI .u l) (sI f l) := .sl _ _ _ _ _ _ rfl LeL.lits
theorem Le.slSB {H : List Ob} {l : List Int} : Le H .b (sI .s l) (sI .b l) := .sl _ _ _ _ _ _ (.inr rfl) LeL.lits
theorem le_rs {H : List Ob} {f g : Fl} (hf : f = .b ∨ g = .s) (hg : g ≠ .u) {l : List RD} {n : Nat} : Le H f (.sl g 3 n (rsC g l)) (.sl g 3 n (rsC g l)) := by
  refine .sl _ _ _ _ _ _ ?_ (leL_rsC fun m => Le.slI hf hg)
  cases g
  · exact .inl rfl
  · rcases hf with rfl | h
    · exact ⟨rfl, rfl⟩
    · cases h
  · exact absurd rfl hg
@[go_sem] theorem le_rsS {H : List Ob} {f : Fl} {l : List RD} {n : Nat} : Le H f (.sl .s 3 n (rsC .s l)) (.sl .s 3 n (rsC .s l)) = True := by
  apply propext; exact ⟨fun _ => trivial, fun _ => le_rs (.inr rfl) (by simp)⟩
@[go_sem] theorem le_rsB {H : List Ob} {g : Fl} (hg : g ≠ .u) {l : List RD} {n : Nat} : Le H .b (.sl g 3 n (rsC g l)) (.sl g 3 n (rsC g l)) = True := by
  apply propext; exact ⟨fun _ => trivial, fun _ => le_rs (.inl rfl) hg⟩
theorem Le.ownR {H : List Ob} {f g : Fl} {id n : Nat} {ty : TypeId} {l : List RD} (h : H[id]? = some ⟨.own, ty, rsC g l⟩) (hn : n = l.length) (hg : g = .u ∨ g = .s) (hf : f ≠ .u) : Le H f (.rsl id 3 0 n) (sR f l) := by
  subst hn
  have key : LeL H f (rsC g l) (rsC f l) := by
    refine leL_rsC fun m => ?_
    rcases hg with rfl | rfl
    · exact Le.slU
    · cases f
      · exact Le.slS
      · exact Le.slSB
      · exact absurd rfl hf
  have := Le.rsl (H := H) (f := f) id 3 0 l.length ⟨.own, ty, rsC g l⟩ (rsC f l) h (.inl rfl) (by simp [rsC_length]) (by
    simp only [Nat.zero_mul, List.drop_zero]
    rw [List.take_of_length_le (by rw [rsC_length]; omega)]; exact key)
  exact this
@[go_sem] theorem le_ownRu {H : List Ob} {f : Fl} {id n n' : Nat} {l : List RD} (hf : f ≠ .u) (h : ownAt H[id]? (rsC .u l)) (hn : n = l.length) (hn' : n' = l.length) : Le H f (.rsl id 3 0 n) (.sl f 3 n' (rsC f l)) = True := by
  obtain ⟨ty, h⟩ := h
  subst hn'
  apply propext; exact ⟨fun _ => trivial, fun _ => Le.ownR h hn (.inl rfl) hf⟩
theorem toBigInt_c (f : Fl) (hf : f ≠ .u) (b : Bool) (m : List Int) (hl : m.length ≤ 1048576) : PC PP F_laws_toBigInt [.agg (bC f b m)] (.agg (bC .s b m)) [] := by
  refine tx W_laws_toBigInt ke_laws_toBigInt [] (by kernel_rfl) ?_
  simp -dsimp only [go_sem,↓reduceIte,Nat.reduceEqDiff,Nat.reduceAdd,Nat.reduceSub,Nat.reduceMul,Nat.reduceLT,Nat.reduceLeDiff,reduceCtorEq, hf]
  refine callP (toIntS_c f hf m hl) (by simp -dsimp only [go_sem,↓reduceIte,Nat.reduceEqDiff,Nat.reduceAdd,Nat.reduceSub,Nat.reduceMul,Nat.reduceLT,Nat.reduceLeDiff,reduceCtorEq, hf]) ?_
  simp -dsimp only [go_sem,↓reduceIte,Nat.reduceEqDiff,Nat.reduceAdd,Nat.reduceSub,Nat.reduceMul,Nat.reduceLT,Nat.reduceLeDiff,reduceCtorEq, hf]
theorem toBigIntO_c (f : Fl) (hf : f ≠ .u) (b : Bool) (m : List Int) (hl : m.length ≤ 1048576) : GC PP F_laws_toBigInt [.agg (bC f b m)] [] (.agg [Bo b, .rsl 0 1 0 m.length]) [⟨.own, T_int, iC m⟩] := by
  refine txg W_laws_toBigInt ke_laws_toBigInt 0 [] [] [] rfl (by kernel_rfl) ?_
  simp -dsimp only [go_sem,↓reduceIte,Nat.reduceEqDiff,Nat.reduceAdd,Nat.reduceSub,Nat.reduceMul,Nat.reduceLT,Nat.reduceLeDiff,reduceCtorEq, hf]
  refine callO' (toIntSO_c f hf m (by omega)) (by simp -dsimp only [go_sem,↓reduceIte,Nat.reduceEqDiff,Nat.reduceAdd,Nat.reduceSub,Nat.reduceMul,Nat.reduceLT,Nat.reduceLeDiff,reduceCtorEq, hf]) lF ?_
  simp -dsimp only [go_sem,↓reduceIte,Nat.reduceEqDiff,Nat.reduceAdd,Nat.reduceSub,Nat.reduceMul,Nat.reduceLT,Nat.reduceLeDiff,reduceCtorEq, hf]
  exact RtG.nothing [some 3] lE (by decide) lS lE
abbrev rO (r : RD) : V := .agg [Bo r.neg, .rsl 0 1 0 r.mag.length, .rsl 1 1 0 r.den.length]
abbrev rH (r : RD) : List Ob := [⟨.own, T_int, iC r.mag⟩, ⟨.own, T_int, iC r.den⟩]
def RD.small (r : RD) : Prop := r.mag.length ≤ 1048576 ∧ r.den.length ≤ 1048576
theorem toRat_c (f : Fl) (hf : f ≠ .u) (r : RD) (hl : r.small) : PC PP F_laws_toRat [rV f r] (rV .s r) [] := by
  obtain ⟨b, m, d⟩ := r
  obtain ⟨h1, h2⟩ := hl
  simp only at h1 h2
  refine tx W_laws_toRat ke_laws_toRat [] (by kernel_rfl) ?_
  simp -dsimp only [go_sem,↓reduceIte,Nat.reduceEqDiff,Nat.reduceAdd,Nat.reduceSub,Nat.reduceMul,Nat.reduceLT,Nat.reduceLeDiff,reduceCtorEq, hf]
  refine callP (toBigInt_c f hf b m h1) (by simp -dsimp only [go_sem,↓reduceIte,Nat.reduceEqDiff,Nat.reduceAdd,Nat.reduceSub,Nat.reduceMul,Nat.reduceLT,Nat.reduceLeDiff,reduceCtorEq, hf]) ?_
  simp -dsimp only [go_sem,↓reduceIte,Nat.reduceEqDiff,Nat.reduceAdd,Nat.reduceSub,Nat.reduceMul,Nat.reduceLT,Nat.reduceLeDiff,reduceCtorEq, hf]
  refine callP (toIntS_c f hf d h2) (by simp -dsimp only [go_sem,↓reduceIte,Nat.reduceEqDiff,Nat.reduceAdd,Nat.reduceSub,Nat.reduceMul,Nat.reduceLT,Nat.reduceLeDiff,reduceCtorEq, hf]) ?_
  simp -dsimp only [go_sem,↓reduceIte,Nat.reduceEqDiff,Nat.reduceAdd,Nat.reduceSub,Nat.reduceMul,Nat.reduceLT,Nat.reduceLeDiff,reduceCtorEq, hf]
theorem toRatO_c (f : Fl) (hf : f ≠ .u) (r : RD) (hl : r.small) : GC PP F_laws_toRat [rV f r] [] (rO r) (rH r) := by
  obtain ⟨b, m, d⟩ := r
  obtain ⟨h1, h2⟩ := hl
  simp only at h1 h2
  refine txg W_laws_toRat ke_laws_toRat 0 [] [] [] rfl (by kernel_rfl) ?_
  simp -dsimp only [go_sem,↓reduceIte,Nat.reduceEqDiff,Nat.reduceAdd,Nat.reduceSub,Nat.reduceMul,Nat.reduceLT,Nat.reduceLeDiff,reduceCtorEq, hf]
  refine callO' (toBigIntO_c f hf b m h1) (by simp -dsimp only [go_sem,↓reduceIte,Nat.reduceEqDiff,Nat.reduceAdd,Nat.reduceSub,Nat.reduceMul,Nat.reduceLT,Nat.reduceLeDiff,reduceCtorEq, hf]) lF ?_
  simp -dsimp only [go_sem,↓reduceIte,Nat.reduceEqDiff,Nat.reduceAdd,Nat.reduceSub,Nat.reduceMul,Nat.reduceLT,Nat.reduceLeDiff,reduceCtorEq, hf]
  refine callO' (toIntSO_c f hf d (by omega)) (by simp -dsimp only [go_sem,↓reduceIte,Nat.reduceEqDiff,Nat.reduceAdd,Nat.reduceSub,Nat.reduceMul,Nat.reduceLT,Nat.reduceLeDiff,reduceCtorEq, hf]) lF ?_
  simp -dsimp only [go_sem,↓reduceIte,Nat.reduceEqDiff,Nat.reduceAdd,Nat.reduceSub,Nat.reduceMul,Nat.reduceLT,Nat.reduceLeDiff,reduceCtorEq, hf]
  exact RtG.nothing [some 3, some 4] lE (by decide) lS lE
abbrev zR : List V := [Bo false, .emp, .emp]
def zsR (n : Nat) : List V := (List.replicate n zR).flatten
@[go_sem] theorem zsR_length {n : Nat} : (zsR n).length = n * 3 := by
  induction n with
  | zero => rfl
  | succ n ih => rw [zsR, List.replicate_succ, List.flatten_cons, List.length_append]; simp only [zsR] at ih; rw [ih]; simp; omega
theorem zsR_succ {n : Nat} : zsR (n + 1) = zR ++ zsR n := by rw [zsR, List.replicate_succ, List.flatten_cons]; rfl
theorem zsR_eq {n : Nat} : (List.replicate n [Bo false, .emp, .emp]).flatten = zsR n := rfl
theorem zsR_mem {n : Nat} {c : V} (h : c ∈ zsR n) : c = Bo false ∨ c = .emp := by
  unfold zsR at h
  obtain ⟨l, h1, h2⟩ := List.mem_flatten.1 h
  obtain ⟨_, rfl⟩ := List.mem_replicate.1 h1
  simp at h2
  rcases h2 with h2 | h2
  · exact .inl h2
  · exact .inr h2
theorem flat_zsR {n : Nat} : ∀ c ∈ zsR n, c.flat := fun c h => by rcases zsR_mem h with rfl | rfl <;> trivial
theorem nb_zsR {n : Nat} : ∀ c ∈ zsR n, c.nb := fun c h => by rcases zsR_mem h with rfl | rfl <;> trivial
def fillR (f : Fl) (l : List RD) (i : Nat) : List V := rsC f (l.take i) ++ zsR (l.length - i)
@[go_sem] theorem fillR_length {f : Fl} {l : List RD} {i : Nat} : (fillR f l i).length = min i l.length * 3 + (l.length - i) * 3 := by
  unfold fillR; rw [List.length_append, rsC_length, zsR_length, List.length_take]
theorem fillR_take {f : Fl} {l : List RD} {i : Nat} (h : i < l.length) : (fillR f l i).take (i * 3) = rsC f (l.take i) := by
  unfold fillR
  rw [List.take_append_of_le_length (by rw [rsC_length, List.length_take]; omega), List.take_of_length_le (by rw [rsC_length, List.length_take]; omega)]
theorem fillR_drop {f : Fl} {l : List RD} {i : Nat} (h : i < l.length) : (fillR f l i).drop (i * 3 + 3) = zsR (l.length - (i + 1)) := by
  unfold fillR
  rw [List.drop_append, List.drop_of_length_le (by rw [rsC_length, List.length_take]; omega), List.nil_append, rsC_length, List.length_take, Nat.min_eq_left (by omega), show i * 3 + 3 - i * 3 = 3 by omega, show l.length - i = (l.length - (i + 1)) + 1 by omega, zsR_succ]
  rfl
theorem fillR_zero {f : Fl} {l : List RD} : fillR f l 0 = zsR l.length := by simp [fillR, rsC]
theorem fillR_full {f : Fl} {l : List RD} : fillR f l l.length = rsC f l := by simp [fillR, zsR]
theorem fillR_succ {f : Fl} {l : List RD} {i : Nat} (h : i < l.length) : rsC f (l.take i) ++ rdC f l[i] ++ zsR (l.length - (i + 1)) = fillR f l (i + 1) := by
  unfold fillR
  rw [List.take_succ_eq_append_getElem h, rsC_append]
  simp [rsC]
def smallL (l : List RD) : Prop := l.length ≤ 1048576 ∧ ∀ r ∈ l, r.small
theorem toRatS_c (f : Fl) (hf : f ≠ .u) (l : List RD) (hl : smallL l) : PC PP F_laws_toRatS [sR f l] (sR .s l) [] := by
  obtain ⟨h1, h2⟩ := hl
  refine tx W_laws_toRatS ke_laws_toRatS [] (by kernel_rfl) ?_
  simp -dsimp only [go_sem,↓reduceIte,Nat.reduceEqDiff,Nat.reduceAdd,Nat.reduceSub,Nat.reduceMul,Nat.reduceLT,Nat.reduceLeDiff,reduceCtorEq, hf]
  refine ⟨by omega, by omega, by omega, ?_⟩
  rw [zsR_eq]
  refine loopI (fun k : Nat => k ≤ l.length) (fun k => ⟨[(0, sR f l), (3, .rsl 0 3 0 l.length), (4, I k)], [⟨.own, T_impl_Rat, fillR .s l k⟩]⟩) (fun k => l.length - k) 0 (by omega) ?_ ?_
  · simp -dsimp only [go_sem,↓reduceIte,Nat.reduceEqDiff,Nat.reduceAdd,Nat.reduceSub,Nat.reduceMul,Nat.reduceLT,Nat.reduceLeDiff,reduceCtorEq]
    rw [fillR_zero]
    exact ⟨rfl, VkL.refl_of (fun c h => by rcases zsR_mem h with rfl | rfl <;> trivial)⟩
  intro k hk
  simp -dsimp only [go_sem,↓reduceIte,Nat.reduceEqDiff,Nat.reduceAdd,Nat.reduceSub,Nat.reduceMul,Nat.reduceLT,Nat.reduceLeDiff,reduceCtorEq, hf]
  refine ⟨fun h => ⟨by omega, h, by omega, ?_⟩, fun h => ?_⟩
  · have hk' : k < l.length := by omega
    rw [rs_take hk']
    refine callP (toRat_c f hf l[k] (h2 _ (List.getElem_mem hk'))) (by simp -dsimp only [go_sem,↓reduceIte,Nat.reduceEqDiff,Nat.reduceAdd,Nat.reduceSub,Nat.reduceMul,Nat.reduceLT,Nat.reduceLeDiff,reduceCtorEq, hf]) ?_
    simp -dsimp only [go_sem,↓reduceIte,Nat.reduceEqDiff,Nat.reduceAdd,Nat.reduceSub,Nat.reduceMul,Nat.reduceLT,Nat.reduceLeDiff,reduceCtorEq]
    refine ⟨by omega, h, by omega, k + 1, by omega, by omega, by rw [w64 (by omega)]; omega, ?_⟩
    rw [fillR_take hk', fillR_drop hk']
    rw [show [Bo (l[k]).neg, sI .s (l[k]).mag, sI .s (l[k]).den] = rdC .s l[k] from rfl, fillR_succ hk']
    exact VkL.refl_of (fun c h => by
      unfold fillR at h
      rcases List.mem_append.1 h with h | h
      · exact rsC_all (p := fun c => c.bel 1) (fun _ => trivial) (fun _ => trivial) c h
      · rcases zsR_mem h with rfl | rfl <;> trivial)
  · have : k = l.length := by omega
    subst this
    exact Le.ownR (ty := T_impl_Rat) (by simp [fillR_full]) rfl (.inr rfl) (by simp)
theorem rnL_rd {H : List Ob} {js : List (Option Nat)} {bk : Bool} {r : RD} {k1 k2 : Nat} {t1 t2 : TypeId} (h1 : H[k1]? = some ⟨.own, t1, iC r.mag⟩) (h2 : H[k2]? = some ⟨.own, t2, iC r.den⟩) :
    RnL H js bk [Bo r.neg, .rsl k1 1 0 r.mag.length, .rsl k2 1 0 r.den.length] (rdC .u r) [k1, k2] := by
  refine .cons _ _ _ _ _ _ [] [k1, k2] (.same _ _ _ trivial (fun _ => trivial)) (.cons _ _ _ _ _ _ [k1] [k2] ?_ (.cons _ _ _ _ _ _ [k2] [] ?_ (.nil _ _)))
  · exact .cl _ _ _ _ _ _ _ [] h1 rfl (by simp [iC_length]) (by simp only [Nat.mul_one]; rw [List.take_of_length_le (by simp [iC_length])]; exact RnL.lits)
  · exact .cl _ _ _ _ _ _ _ [] h2 rfl (by simp [iC_length]) (by simp only [Nat.mul_one]; rw [List.take_of_length_le (by simp [iC_length])]; exact RnL.lits)
theorem rnL_rsC {H : List Ob} {js : List (Option Nat)} {bk : Bool} {f : Fl} (hf : bk = false → f ≠ .b) {l : List RD} : RnL H js bk (rsC f l) (rsC f l) [] :=
  RnL.same (by simp only [flat_rsC]) (fun e => rsC_all (fun _ => trivial) (fun _ => by have := hf e; cases f <;> simp_all [V.nb]))
theorem toRatSO_c (f : Fl) (hf : f ≠ .u) (l : List RD) (hl : smallL l) : GC PP F_laws_toRatS [sR f l] [] (.rsl 0 3 0 l.length) [⟨.own, T_impl_Rat, rsC .u l⟩] := by
  obtain ⟨h1, h2⟩ := hl
  refine txg W_laws_toRatS ke_laws_toRatS 0 [] [] [] rfl (by kernel_rfl) ?_
  simp -dsimp only [go_sem,↓reduceIte,Nat.reduceEqDiff,Nat.reduceAdd,Nat.reduceSub,Nat.reduceMul,Nat.reduceLT,Nat.reduceLeDiff,reduceCtorEq, hf]
  refine ⟨by omega, by omega, by omega, ?_⟩
  rw [zsR_eq]
  refine loopJ (fun k : Nat => k ≤ l.length) (fun k => ⟨[(0, sR f l), (3, .rsl 0 3 0 l.length), (4, I k)], [⟨.own, T_impl_Rat, fillR .u l k⟩]⟩) (fun k => l.length - k) 0 (by omega) ?_ ?_
  · refine StI.ren [some 0] [[]] lE (by decide) ?_ (by simp -dsimp only [go_sem,↓reduceIte,Nat.reduceEqDiff,Nat.reduceAdd,Nat.reduceSub,Nat.reduceMul,Nat.reduceLT,Nat.reduceLeDiff,reduceCtorEq, hf]; rfl)
    simp -dsimp only [go_sem,↓reduceIte,Nat.reduceEqDiff,Nat.reduceAdd,Nat.reduceSub,Nat.reduceMul,Nat.reduceLT,Nat.reduceLeDiff,reduceCtorEq]
    rw [fillR_zero]
    exact RnL.same flat_zsR (fun _ => nb_zsR)
  intro k hk
  simp -dsimp only [go_sem,↓reduceIte,Nat.reduceEqDiff,Nat.reduceAdd,Nat.reduceSub,Nat.reduceMul,Nat.reduceLT,Nat.reduceLeDiff,reduceCtorEq, hf]
  refine ⟨fun h => ⟨by omega, h, by omega, ?_⟩, fun h => ?_⟩
  · have hk' : k < l.length := by omega
    rw [rs_take hk']
    refine callO' (toRatO_c f hf l[k] (h2 _ (List.getElem_mem hk'))) (by simp -dsimp only [go_sem,↓reduceIte,Nat.reduceEqDiff,Nat.reduceAdd,Nat.reduceSub,Nat.reduceMul,Nat.reduceLT,Nat.reduceLeDiff,reduceCtorEq, hf]) lF ?_
    simp -dsimp only [go_sem,↓reduceIte,Nat.reduceEqDiff,Nat.reduceAdd,Nat.reduceSub,Nat.reduceMul,Nat.reduceLT,Nat.reduceLeDiff,reduceCtorEq]
    refine ⟨by omega, h, by omega, k + 1, by omega, by omega, ?_⟩
    rw [fillR_take hk', fillR_drop hk']
    refine StI.ren [some 0] [[1, 2]] lE (by decide) ?_ (by simp -dsimp only [go_sem,↓reduceIte,Nat.reduceEqDiff,Nat.reduceAdd,Nat.reduceSub,Nat.reduceMul,Nat.reduceLT,Nat.reduceLeDiff,reduceCtorEq, hf]; rw [w64 (by omega)]; omega)
    simp -dsimp only [go_sem,↓reduceIte,Nat.reduceEqDiff,Nat.reduceAdd,Nat.reduceSub,Nat.reduceMul,Nat.reduceLT,Nat.reduceLeDiff,reduceCtorEq]
    rw [← fillR_succ hk']
    exact RnL.app (RnL.app (k1 := []) (rnL_rsC (by simp)) (rnL_rd rfl rfl)) (k2 := []) (RnL.same flat_zsR (fun _ => nb_zsR))
  · have : k = l.length := by omega
    subst this
    rw [fillR_full]
    refine RtG.nothing [some 0] lE (by decide) ?_ lE
    simp -dsimp only [go_sem,↓reduceIte,Nat.reduceEqDiff,Nat.reduceAdd,Nat.reduceSub,Nat.reduceMul,Nat.reduceLT,Nat.reduceLeDiff,reduceCtorEq, List.map_cons, List.map_nil]
    exact rnL_rsC (by simp)
end Go.Proofs.YtgkimfncegbeaaaGreat
namespace Go.Proofs.YtgkimfncegbeaaaGreat
open Go Go.RowKit
set_option maxRecDepth 100000
set_option linter.unusedVariables false
set_option linter.unusedSimpArgs false
theorem RD.eq_iff {r s : RD} : r = s ↔ r.neg = s.neg ∧ r.mag = s.mag ∧ r.den = s.den := by
  cases r; cases s; simp
theorem eqBigInt_c (f g : Fl) (hf : f ≠ .u) (hg : g ≠ .u) (b b' : Bool) (m m' : List Int) (h1 : m.length ≤ 1048576) : PC PP F_laws_eqBigInt [.agg (bC f b m), .agg (bC g b' m')] (Bo (decide (b = b' ∧ m = m'))) [] := by
  refine tx W_laws_eqBigInt ke_laws_eqBigInt [] (by kernel_rfl) ?_
  simp -dsimp only [go_sem,↓reduceIte,Nat.reduceEqDiff,Nat.reduceAdd,Nat.reduceSub,Nat.reduceMul,Nat.reduceLT,Nat.reduceLeDiff,reduceCtorEq, hf, hg]
  refine ⟨fun h => by simp at h; simp [h], fun h => ?_⟩
  refine callP (eqIntS_c f g hf hg m m' h1) (by simp -dsimp only [go_sem,↓reduceIte,Nat.reduceEqDiff,Nat.reduceAdd,Nat.reduceSub,Nat.reduceMul,Nat.reduceLT,Nat.reduceLeDiff,reduceCtorEq, hf, hg]) ?_
  simp -dsimp only [go_sem,↓reduceIte,Nat.reduceEqDiff,Nat.reduceAdd,Nat.reduceSub,Nat.reduceMul,Nat.reduceLT,Nat.reduceLeDiff,reduceCtorEq, hf, hg]
  simp at h; simp [h]
theorem eqRat_c (f g : Fl) (hf : f ≠ .u) (hg : g ≠ .u) (r s : RD) (hr : r.small) : PC PP F_laws_eqRat [rV f r, rV g s] (Bo (decide (r = s))) [] := by
  simp only [RD.eq_iff]
  obtain ⟨b, m, d⟩ := r
  obtain ⟨b', m', d'⟩ := s
  obtain ⟨h1, h2⟩ := hr
  try simp only at *
  refine tx W_laws_eqRat ke_laws_eqRat [] (by kernel_rfl) ?_
  simp -dsimp only [go_sem,↓reduceIte,Nat.reduceEqDiff,Nat.reduceAdd,Nat.reduceSub,Nat.reduceMul,Nat.reduceLT,Nat.reduceLeDiff,reduceCtorEq, hf, hg]
  refine callP (eqBigInt_c f g hf hg b b' m m' h1) (by simp -dsimp only [go_sem,↓reduceIte,Nat.reduceEqDiff,Nat.reduceAdd,Nat.reduceSub,Nat.reduceMul,Nat.reduceLT,Nat.reduceLeDiff,reduceCtorEq, hf, hg]) ?_
  simp -dsimp only [go_sem,↓reduceIte,Nat.reduceEqDiff,Nat.reduceAdd,Nat.reduceSub,Nat.reduceMul,Nat.reduceLT,Nat.reduceLeDiff,reduceCtorEq, hf, hg]
  refine ⟨fun h => ?_, fun h => ?_⟩
  · simp at h ⊢; intro e1 e2; rcases h with h | h <;> contradiction
  refine callP (eqIntS_c f g hf hg d d' h2) (by simp -dsimp only [go_sem,↓reduceIte,Nat.reduceEqDiff,Nat.reduceAdd,Nat.reduceSub,Nat.reduceMul,Nat.reduceLT,Nat.reduceLeDiff,reduceCtorEq, hf, hg]) ?_
  simp -dsimp only [go_sem,↓reduceIte,Nat.reduceEqDiff,Nat.reduceAdd,Nat.reduceSub,Nat.reduceMul,Nat.reduceLT,Nat.reduceLeDiff,reduceCtorEq, hf, hg]
  have h : b = b' ∧ m = m' := by simpa using h
  simp [h.1, h.2]
theorem RD.getD {l : List RD} {i : Nat} (h : i < l.length) : l.getD i RD.zero = l[i] := by simp [h]
theorem takeR_succ {l m : List RD} {k : Nat} (hl : k < l.length) (hm : k < m.length) (h : l.take k = m.take k) (he : l[k] = m[k]) : l.take (k + 1) = m.take (k + 1) := by
  rw [List.take_succ_eq_append_getElem hl, List.take_succ_eq_append_getElem hm, h, he]
theorem eqRatS_c (f g : Fl) (hf : f ≠ .u) (hg : g ≠ .u) (l m : List RD) (hl : smallL l) : PC PP F_laws_eqRatS [sR f l, sR g m] (Bo (decide (l = m))) [] := by
  obtain ⟨h1, h2⟩ := hl
  refine tx W_laws_eqRatS ke_laws_eqRatS [] (by kernel_rfl) ?_
  simp -dsimp only [go_sem,↓reduceIte,Nat.reduceEqDiff,Nat.reduceAdd,Nat.reduceSub,Nat.reduceMul,Nat.reduceLT,Nat.reduceLeDiff,reduceCtorEq, hf, hg]
  refine ⟨fun h => ?_, fun h => ?_⟩
  · have : l ≠ m := by rintro rfl; exact h rfl
    simp [this]
  have hlm : l.length = m.length := by omega
  refine loopI (fun k : Nat => k ≤ l.length ∧ l.take k = m.take k) (fun k => ⟨[(0, sR f l), (1, sR g m), (5, I k)], []⟩) (fun k => l.length - k) 0 ⟨by omega, rfl⟩ ?_ ?_
  · simp -dsimp only [go_sem,↓reduceIte,Nat.reduceEqDiff,Nat.reduceAdd,Nat.reduceSub,Nat.reduceMul,Nat.reduceLT,Nat.reduceLeDiff,reduceCtorEq]; simp
  intro k ⟨hk, hp⟩
  simp -dsimp only [go_sem,↓reduceIte,Nat.reduceEqDiff,Nat.reduceAdd,Nat.reduceSub,Nat.reduceMul,Nat.reduceLT,Nat.reduceLeDiff,reduceCtorEq, hf, hg]
  refine ⟨fun h => ⟨by omega, h, by omega, by omega, by omega, by omega, ?_⟩, fun h => ?_⟩
  · have hk' : k < l.length := by omega
    have hm' : k < m.length := by omega
    rw [rs_take hk', rs_take hm']
    refine callP (eqRat_c f g hf hg l[k] m[k] (h2 _ (List.getElem_mem hk'))) (by simp -dsimp only [go_sem,↓reduceIte,Nat.reduceEqDiff,Nat.reduceAdd,Nat.reduceSub,Nat.reduceMul,Nat.reduceLT,Nat.reduceLeDiff,reduceCtorEq, hf, hg]) ?_
    simp -dsimp only [go_sem,↓reduceIte,Nat.reduceEqDiff,Nat.reduceAdd,Nat.reduceSub,Nat.reduceMul,Nat.reduceLT,Nat.reduceLeDiff,reduceCtorEq, hf, hg]
    refine ⟨fun h => ?_, fun h => ⟨k + 1, ⟨by omega, takeR_succ hk' hm' hp (by simpa using h)⟩, by omega, by rw [w64 (by omega)]; omega⟩⟩
    have : l ≠ m := by rintro rfl; simp at h
    simp [this]
  · have : k = l.length := by omega
    subst this
    rw [List.take_length, hlm, List.take_length] at hp
    simp [hp]
structure QD where
  code : Int
  x : List RD
  value : RD
deriving DecidableEq
def QD.sz (q : QD) : Nat := szL q.x + q.value.sz
def QD.fit (q : QD) : Prop := fitL q.x ∧ q.value.fit
def QD.small (q : QD) : Prop := smallL q.x ∧ q.value.small
theorem RD.small_of {r : RD} (h : r.sz ≤ 1048576) : r.small := by unfold RD.sz at h; exact ⟨by omega, by omega⟩
theorem RD.small.fit {r : RD} (h : r.small) : r.fit := ⟨by have := h.1; omega, by have := h.2; omega⟩
theorem smallL_of {l : List RD} (h : szL l ≤ 1048576) : smallL l := by
  unfold szL at h
  exact ⟨by omega, fun r hr => RD.small_of (by have := sz_le hr; omega)⟩
theorem smallL.fit {l : List RD} (h : smallL l) : fitL l := ⟨by have := h.1; omega, fun r hr => (h.2 r hr).fit⟩
theorem QD.small_of {q : QD} (h : q.sz ≤ 1048576) : q.small := by unfold QD.sz at h; exact ⟨smallL_of (by omega), RD.small_of (by omega)⟩
theorem QD.eq_iff {r s : QD} : r = s ↔ r.code = s.code ∧ r.x = s.x ∧ r.value = s.value := by
  cases r; cases s; simp
end Go.Proofs.YtgkimfncegbeaaaGreat
