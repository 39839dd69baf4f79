/- What laws do with rows of ints and with programs: copies of their own, marks, and whether marks are held. -/
import Derived.Test.YtekhgkpnhenecaaLa1
namespace Go.Proofs.Ytekhgkpnhenecaa
open Go Go.RowKit
set_option maxRecDepth 100000
set_option linter.unusedVariables false
set_option linter.unusedSimpArgs false

def marks (k : Int) (n : Nat) : List Int := (List.range n).map fun i => k + (i : Nat)
@[simp, go_sem] theorem marks_length {k : Int} {n : Nat} : (marks k n).length = n := by simp [marks]
theorem marks_succ {k : Int} {n : Nat} : marks k (n + 1) = marks k n ++ [k + n] := by simp [marks, List.range_succ]
@[simp] theorem marks_zero {k : Int} : marks k 0 = [] := rfl
theorem mark_step {k : Int} {i : Nat} {l : List Int} (h : i < l.length) : (marks k i ++ l.drop i).set i (k + i) = marks k (i + 1) ++ l.drop (i + 1) := by
  rw [List.set_append_right _ _ (by rw [marks_length]; omega), marks_length, Nat.sub_self, List.drop_eq_getElem_cons h, List.set_cons_zero, marks_succ, List.append_assoc]; rfl

theorem markIntS_c (ty : TypeId) (l : List Int) (k : Int) (hl : l.length ≤ 4194304) (hk : 0 ≤ k ∧ k ≤ 1000000000000) :
    GC PP F_laws_markIntS [.rsl 0 1 0 l.length, I k] [⟨.own, ty, iC l⟩] (I (k + l.length)) [⟨.own, ty, iC (marks k l.length)⟩] := by
  refine txg W_laws_markIntS ke_laws_markIntS 1 [] [] [] rfl (by kernel_rfl) ?_
  simp -dsimp only [go_sem, ↓reduceIte, Nat.reduceEqDiff, Nat.reduceAdd, Nat.reduceSub, Nat.reduceMul, Nat.reduceLT, Nat.reduceLeDiff, reduceCtorEq]
  refine loopI (fun i : Nat => i ≤ l.length) (fun i => ⟨[(0, .rsl 0 1 0 l.length), (1, I (k + i)), (5, I i)], [⟨.own, ty, iC (marks k i ++ l.drop i)⟩]⟩) (fun i => l.length - i) 0 (by omega) ?_ ?_
  · simp -dsimp only [go_sem, ↓reduceIte, Nat.reduceEqDiff, Nat.reduceAdd, Nat.reduceSub, Nat.reduceMul, Nat.reduceLT, Nat.reduceLeDiff, reduceCtorEq]
    simp
  intro i hi
  simp -dsimp only [go_sem, ↓reduceIte, Nat.reduceEqDiff, Nat.reduceAdd, Nat.reduceSub, Nat.reduceMul, Nat.reduceLT, Nat.reduceLeDiff, reduceCtorEq]
  refine ⟨fun h => ⟨by omega, h, by omega, i + 1, by omega, by omega, ⟨by rw [w64 (by omega)]; omega, by rw [w64 (by omega)]; omega⟩, ?_⟩, fun h => ?_⟩
  · rw [iC_set (by simp; omega), mark_step (by omega), vkL_iC]
  · have : i = l.length := by omega
    subst this
    rw [List.drop_length, List.append_nil]
    exact RtG.nothing [some 0] (by simp -dsimp only [go_sem, ↓reduceIte, Nat.reduceEqDiff, Nat.reduceAdd, Nat.reduceSub, Nat.reduceMul, Nat.reduceLT, Nat.reduceLeDiff, reduceCtorEq]) (by decide) (by simp -dsimp only [go_sem, ↓reduceIte, Nat.reduceEqDiff, Nat.reduceAdd, Nat.reduceSub, Nat.reduceMul, Nat.reduceLT, Nat.reduceLeDiff, reduceCtorEq,  List.map_cons, List.map_nil]) (by simp -dsimp only [go_sem, ↓reduceIte, Nat.reduceEqDiff, Nat.reduceAdd, Nat.reduceSub, Nat.reduceMul, Nat.reduceLT, Nat.reduceLeDiff, reduceCtorEq])

def heldI (l : List Int) (k : Int) : Int := if l = marks k l.length then k + l.length else -1
theorem heldI_marks {k : Int} {n : Nat} : heldI (marks k n) k = k + n := by simp [heldI]

theorem heldIntS_c (f : Fl) (hf : f ≠ .u) (l : List Int) (k : Int) (hl : l.length ≤ 4194304) (hk : 0 ≤ k ∧ k ≤ 1000000000000) : PC PP F_laws_heldIntS [sI f l, I k] (I (heldI l k)) [] := by
  refine tx W_laws_heldIntS ke_laws_heldIntS [] (by kernel_rfl) ?_
  simp -dsimp only [go_sem, ↓reduceIte, Nat.reduceEqDiff, Nat.reduceAdd, Nat.reduceSub, Nat.reduceMul, Nat.reduceLT, Nat.reduceLeDiff, reduceCtorEq]
  refine loopI (fun i : Nat => i ≤ l.length ∧ l.take i = marks k i) (fun i => ⟨[(0, sI f l), (1, I (k + i)), (5, I i)], []⟩) (fun i => l.length - i) 0 ⟨by omega, rfl⟩ ?_ ?_
  · simp -dsimp only [go_sem, ↓reduceIte, Nat.reduceEqDiff, Nat.reduceAdd, Nat.reduceSub, Nat.reduceMul, Nat.reduceLT, Nat.reduceLeDiff, reduceCtorEq]; simp
  intro i ⟨hi, hp⟩
  simp -dsimp only [go_sem, ↓reduceIte, Nat.reduceEqDiff, Nat.reduceAdd, Nat.reduceSub, Nat.reduceMul, Nat.reduceLT, Nat.reduceLeDiff, reduceCtorEq]
  refine ⟨fun h => ⟨by omega, h, by omega, ?_⟩, fun h => ?_⟩
  · have hi' : i < l.length := by omega
    rw [iC_get hi']
    simp -dsimp only [go_sem, ↓reduceIte, Nat.reduceEqDiff, Nat.reduceAdd, Nat.reduceSub, Nat.reduceMul, Nat.reduceLT, Nat.reduceLeDiff, reduceCtorEq]
    refine ⟨fun h => ?_, fun h => ⟨i + 1, ⟨by omega, ?_⟩, by omega, by rw [w64 (by omega)]; omega, by rw [w64 (by omega)]; omega⟩⟩
    · unfold heldI
      rw [if_neg]
      intro e
      apply h
      have h1 : l.getD i 0 = (marks k l.length).getD i 0 := by rw [← e]
      rw [h1]; simp [marks, hi']
    · rw [List.take_succ_eq_append_getElem hi', hp, marks_succ]
      simp only [hi', List.getD_eq_getElem?_getD, List.getElem?_eq_getElem, Option.getD_some, Decidable.not_not] at h
      rw [h]
  · have : i = l.length := by omega
    subst this
    rw [List.take_length] at hp
    unfold heldI
    rw [if_pos hp]

theorem toIntSO_c (f : Fl) (hf : f ≠ .u) (l : List Int) (hl : l.length ≤ 4194304) : GC PP F_laws_toIntS [sI f l] [] (.rsl 0 1 0 l.length) [⟨.own, T_int, iC l⟩] := by
  refine txg W_laws_toIntS ke_laws_toIntS 0 [] [] [] rfl (by kernel_rfl) ?_
  simp -dsimp only [go_sem, ↓reduceIte, Nat.reduceEqDiff, Nat.reduceAdd, Nat.reduceSub, Nat.reduceMul, Nat.reduceLT, Nat.reduceLeDiff, reduceCtorEq,  hf]
  refine ⟨by omega, by omega, by omega, ?_⟩
  rw [iC_zero]
  refine loopI (fun k : Nat => k ≤ l.length) (fun k => ⟨[(0, sI f l), (3, .rsl 0 1 0 l.length), (4, I k)], [⟨.own, T_int, iC (l.take k ++ List.replicate (l.length - k) 0)⟩]⟩) (fun k => l.length - k) 0 (by omega) ?_ ?_
  · simp -dsimp only [go_sem, ↓reduceIte, Nat.reduceEqDiff, Nat.reduceAdd, Nat.reduceSub, Nat.reduceMul, Nat.reduceLT, Nat.reduceLeDiff, reduceCtorEq]; simp
  intro k hk
  simp -dsimp only [go_sem, ↓reduceIte, Nat.reduceEqDiff, Nat.reduceAdd, Nat.reduceSub, Nat.reduceMul, Nat.reduceLT, Nat.reduceLeDiff, reduceCtorEq,  hf]
  refine ⟨fun h => ⟨by omega, h, by omega, ?_⟩, fun h => ?_⟩
  · have hk' : k < l.length := by omega
    rw [iC_get hk']
    simp -dsimp only [go_sem, ↓reduceIte, Nat.reduceEqDiff, Nat.reduceAdd, Nat.reduceSub, Nat.reduceMul, Nat.reduceLT, Nat.reduceLeDiff, reduceCtorEq]
    refine ⟨by omega, h, by rw [List.length_replicate]; omega, k + 1, by omega, by omega, by rw [w64 (by omega)]; omega, ?_⟩
    have e := iC_set (l := l.take k ++ List.replicate (l.length - k) 0) (i := k) (v := l.getD k 0) (by rw [List.length_append, List.length_take, List.length_replicate]; omega)
    rw [e, vkL_iC, fill_step hk']
  · have : k = l.length := by omega
    subst this
    simp only [List.take_length, Nat.sub_self, List.replicate_zero, List.append_nil]
    exact RtG.nothing [some 0] (by simp -dsimp only [go_sem, ↓reduceIte, Nat.reduceEqDiff, Nat.reduceAdd, Nat.reduceSub, Nat.reduceMul, Nat.reduceLT, Nat.reduceLeDiff, reduceCtorEq]) (by decide) (by simp -dsimp only [go_sem, ↓reduceIte, Nat.reduceEqDiff, Nat.reduceAdd, Nat.reduceSub, Nat.reduceMul, Nat.reduceLT, Nat.reduceLeDiff, reduceCtorEq,  List.map_cons, List.map_nil]) (by simp -dsimp only [go_sem, ↓reduceIte, Nat.reduceEqDiff, Nat.reduceAdd, Nat.reduceSub, Nat.reduceMul, Nat.reduceLT, Nat.reduceLeDiff, reduceCtorEq])

/-- a program that holds its own rows -/
abbrev pO (p : Prg) : V := .agg [I p.rows, I p.cols, .rsl 0 1 0 p.a.length, .rsl 1 1 0 p.b.length, .rsl 2 1 0 p.c.length]
abbrev pH (p : Prg) : List Ob := [⟨.own, T_int, iC p.a⟩, ⟨.own, T_int, iC p.b⟩, ⟨.own, T_int, iC p.c⟩]
def markP (p : Prg) (k : Int) : Prg := ⟨p.rows, p.cols, marks k p.a.length, marks (k + p.a.length) p.b.length, marks (k + p.a.length + p.b.length) p.c.length⟩
def Prg.len (p : Prg) : Nat := p.a.length + p.b.length + p.c.length

theorem toProgramO_c (f : Fl) (hf : f ≠ .u) (p : Prg) (hp : p.small) : GC PP F_laws_toProgram [pV f p] [] (pO p) (pH p) := by
  obtain ⟨r, c, la, lb, lc⟩ := p
  obtain ⟨ha, hb, hc⟩ := hp
  simp only at ha hb hc
  refine txg W_laws_toProgram ke_laws_toProgram 0 [] [] [] rfl (by kernel_rfl) ?_
  simp only [pV, pC]
  simp -dsimp only [go_sem, ↓reduceIte, Nat.reduceEqDiff, Nat.reduceAdd, Nat.reduceSub, Nat.reduceMul, Nat.reduceLT, Nat.reduceLeDiff, reduceCtorEq,  hf]
  refine callO' (toIntSO_c f hf la (by omega)) (by simp -dsimp only [go_sem, ↓reduceIte, Nat.reduceEqDiff, Nat.reduceAdd, Nat.reduceSub, Nat.reduceMul, Nat.reduceLT, Nat.reduceLeDiff, reduceCtorEq,  hf]) (by simp -dsimp only [go_sem, ↓reduceIte, Nat.reduceEqDiff, Nat.reduceAdd, Nat.reduceSub, Nat.reduceMul, Nat.reduceLT, Nat.reduceLeDiff, reduceCtorEq,  List.forall_mem_cons, List.not_mem_nil, false_implies, implies_true]) ?_
  simp -dsimp only [go_sem, ↓reduceIte, Nat.reduceEqDiff, Nat.reduceAdd, Nat.reduceSub, Nat.reduceMul, Nat.reduceLT, Nat.reduceLeDiff, reduceCtorEq,  hf]
  refine callO' (toIntSO_c f hf lb (by omega)) (by simp -dsimp only [go_sem, ↓reduceIte, Nat.reduceEqDiff, Nat.reduceAdd, Nat.reduceSub, Nat.reduceMul, Nat.reduceLT, Nat.reduceLeDiff, reduceCtorEq,  hf]) (by simp -dsimp only [go_sem, ↓reduceIte, Nat.reduceEqDiff, Nat.reduceAdd, Nat.reduceSub, Nat.reduceMul, Nat.reduceLT, Nat.reduceLeDiff, reduceCtorEq,  List.forall_mem_cons, List.not_mem_nil, false_implies, implies_true]) ?_
  simp -dsimp only [go_sem, ↓reduceIte, Nat.reduceEqDiff, Nat.reduceAdd, Nat.reduceSub, Nat.reduceMul, Nat.reduceLT, Nat.reduceLeDiff, reduceCtorEq,  hf]
  refine callO' (toIntSO_c f hf lc (by omega)) (by simp -dsimp only [go_sem, ↓reduceIte, Nat.reduceEqDiff, Nat.reduceAdd, Nat.reduceSub, Nat.reduceMul, Nat.reduceLT, Nat.reduceLeDiff, reduceCtorEq,  hf]) (by simp -dsimp only [go_sem, ↓reduceIte, Nat.reduceEqDiff, Nat.reduceAdd, Nat.reduceSub, Nat.reduceMul, Nat.reduceLT, Nat.reduceLeDiff, reduceCtorEq,  List.forall_mem_cons, List.not_mem_nil, false_implies, implies_true]) ?_
  simp -dsimp only [go_sem, ↓reduceIte, Nat.reduceEqDiff, Nat.reduceAdd, Nat.reduceSub, Nat.reduceMul, Nat.reduceLT, Nat.reduceLeDiff, reduceCtorEq,  hf]
  exact RtG.nothing [some 3, some 4, some 5] (by simp -dsimp only [go_sem, ↓reduceIte, Nat.reduceEqDiff, Nat.reduceAdd, Nat.reduceSub, Nat.reduceMul, Nat.reduceLT, Nat.reduceLeDiff, reduceCtorEq]) (by decide) (by simp -dsimp only [go_sem, ↓reduceIte, Nat.reduceEqDiff, Nat.reduceAdd, Nat.reduceSub, Nat.reduceMul, Nat.reduceLT, Nat.reduceLeDiff, reduceCtorEq,  List.map_cons, List.map_nil]) (by simp -dsimp only [go_sem, ↓reduceIte, Nat.reduceEqDiff, Nat.reduceAdd, Nat.reduceSub, Nat.reduceMul, Nat.reduceLT, Nat.reduceLeDiff, reduceCtorEq])

theorem markProgram_c (p : Prg) (k : Int) (hp : p.small) (hk : 0 ≤ k ∧ k ≤ 1000000000) : GC PP F_laws_markProgram [pO p, I k] (pH p) (I (k + p.len)) (pH (markP p k)) := by
  obtain ⟨r, c, la, lb, lc⟩ := p
  obtain ⟨ha, hb, hc⟩ := hp
  simp only at ha hb hc
  refine txg W_laws_markProgram ke_laws_markProgram 3 [] [] [1, 2, 3] rfl (by kernel_rfl) ?_
  simp -dsimp only [go_sem, ↓reduceIte, Nat.reduceEqDiff, Nat.reduceAdd, Nat.reduceSub, Nat.reduceMul, Nat.reduceLT, Nat.reduceLeDiff, reduceCtorEq]
  refine callG' [0] (markIntS_c T_int la k (by omega) (by omega)) (by decide) (by simp -dsimp only [go_sem, ↓reduceIte, Nat.reduceEqDiff, Nat.reduceAdd, Nat.reduceSub, Nat.reduceMul, Nat.reduceLT, Nat.reduceLeDiff, reduceCtorEq]) (by simp -dsimp only [go_sem, ↓reduceIte, Nat.reduceEqDiff, Nat.reduceAdd, Nat.reduceSub, Nat.reduceMul, Nat.reduceLT, Nat.reduceLeDiff, reduceCtorEq]) (by simp -dsimp only [go_sem, ↓reduceIte, Nat.reduceEqDiff, Nat.reduceAdd, Nat.reduceSub, Nat.reduceMul, Nat.reduceLT, Nat.reduceLeDiff, reduceCtorEq]) (by simp -dsimp only [go_sem, ↓reduceIte, Nat.reduceEqDiff, Nat.reduceAdd, Nat.reduceSub, Nat.reduceMul, Nat.reduceLT, Nat.reduceLeDiff, reduceCtorEq,  List.forall_mem_cons, List.not_mem_nil, false_implies, implies_true]) ?_
  simp -dsimp only [go_sem, ↓reduceIte, Nat.reduceEqDiff, Nat.reduceAdd, Nat.reduceSub, Nat.reduceMul, Nat.reduceLT, Nat.reduceLeDiff, reduceCtorEq]
  refine callG' [1] (markIntS_c T_int lb (k + la.length) (by omega) (by omega)) (by decide) (by simp -dsimp only [go_sem, ↓reduceIte, Nat.reduceEqDiff, Nat.reduceAdd, Nat.reduceSub, Nat.reduceMul, Nat.reduceLT, Nat.reduceLeDiff, reduceCtorEq]) (by simp -dsimp only [go_sem, ↓reduceIte, Nat.reduceEqDiff, Nat.reduceAdd, Nat.reduceSub, Nat.reduceMul, Nat.reduceLT, Nat.reduceLeDiff, reduceCtorEq]) (by simp -dsimp only [go_sem, ↓reduceIte, Nat.reduceEqDiff, Nat.reduceAdd, Nat.reduceSub, Nat.reduceMul, Nat.reduceLT, Nat.reduceLeDiff, reduceCtorEq]) (by simp -dsimp only [go_sem, ↓reduceIte, Nat.reduceEqDiff, Nat.reduceAdd, Nat.reduceSub, Nat.reduceMul, Nat.reduceLT, Nat.reduceLeDiff, reduceCtorEq,  List.forall_mem_cons, List.not_mem_nil, false_implies, implies_true]) ?_
  simp -dsimp only [go_sem, ↓reduceIte, Nat.reduceEqDiff, Nat.reduceAdd, Nat.reduceSub, Nat.reduceMul, Nat.reduceLT, Nat.reduceLeDiff, reduceCtorEq]
  refine callG' [2] (markIntS_c T_int lc (k + la.length + lb.length) (by omega) (by omega)) (by decide) (by simp -dsimp only [go_sem, ↓reduceIte, Nat.reduceEqDiff, Nat.reduceAdd, Nat.reduceSub, Nat.reduceMul, Nat.reduceLT, Nat.reduceLeDiff, reduceCtorEq]) (by simp -dsimp only [go_sem, ↓reduceIte, Nat.reduceEqDiff, Nat.reduceAdd, Nat.reduceSub, Nat.reduceMul, Nat.reduceLT, Nat.reduceLeDiff, reduceCtorEq]) (by simp -dsimp only [go_sem, ↓reduceIte, Nat.reduceEqDiff, Nat.reduceAdd, Nat.reduceSub, Nat.reduceMul, Nat.reduceLT, Nat.reduceLeDiff, reduceCtorEq]) (by simp -dsimp only [go_sem, ↓reduceIte, Nat.reduceEqDiff, Nat.reduceAdd, Nat.reduceSub, Nat.reduceMul, Nat.reduceLT, Nat.reduceLeDiff, reduceCtorEq,  List.forall_mem_cons, List.not_mem_nil, false_implies, implies_true]) ?_
  simp -dsimp only [go_sem, ↓reduceIte, Nat.reduceEqDiff, Nat.reduceAdd, Nat.reduceSub, Nat.reduceMul, Nat.reduceLT, Nat.reduceLeDiff, reduceCtorEq]
  have e : k + (Prg.len ⟨r, c, la, lb, lc⟩ : Nat) = k + la.length + lb.length + lc.length := by simp only [Prg.len]; omega
  rw [e]
  simp only [markP, pH]
  exact RtG.nothing [some 0, some 1, some 2] (by simp -dsimp only [go_sem, ↓reduceIte, Nat.reduceEqDiff, Nat.reduceAdd, Nat.reduceSub, Nat.reduceMul, Nat.reduceLT, Nat.reduceLeDiff, reduceCtorEq]) (by decide) (by simp -dsimp only [go_sem, ↓reduceIte, Nat.reduceEqDiff, Nat.reduceAdd, Nat.reduceSub, Nat.reduceMul, Nat.reduceLT, Nat.reduceLeDiff, reduceCtorEq,  List.map_cons, List.map_nil]) (by simp -dsimp only [go_sem, ↓reduceIte, Nat.reduceEqDiff, Nat.reduceAdd, Nat.reduceSub, Nat.reduceMul, Nat.reduceLT, Nat.reduceLeDiff, reduceCtorEq])

def heldP (p : Prg) (k : Int) : Int := if heldI p.a k < 0 then -1 else if heldI p.b (heldI p.a k) < 0 then -1 else if heldI p.c (heldI p.b (heldI p.a k)) < 0 then -1 else heldI p.c (heldI p.b (heldI p.a k))
theorem heldI_rng {l : List Int} {k : Int} (hl : l.length ≤ 4194304) (hk : 0 ≤ k) : -1 ≤ heldI l k ∧ heldI l k ≤ k + l.length := by unfold heldI; split <;> omega
theorem heldP_mark {p : Prg} {k : Int} (hk : 0 ≤ k) : heldP (markP p k) k = k + p.len := by
  unfold heldP markP Prg.len
  simp only [heldI_marks]
  rw [if_neg (by omega), if_neg (by omega), if_neg (by omega)]; omega
theorem heldProgram_c (f : Fl) (hf : f ≠ .u) (p : Prg) (k : Int) (hp : p.small) (hk : 0 ≤ k ∧ k ≤ 1000000000) : PC PP F_laws_heldProgram [pV f p, I k] (I (heldP p k)) [] := by
  obtain ⟨r, c, la, lb, lc⟩ := p
  obtain ⟨ha, hb, hc⟩ := hp
  simp only at ha hb hc
  unfold heldP
  have e1 := heldI_rng (l := la) (k := k) (by omega) hk.1
  refine tx W_laws_heldProgram ke_laws_heldProgram [] (by kernel_rfl) ?_
  simp only [pV, pC]
  simp -dsimp only [go_sem, ↓reduceIte, Nat.reduceEqDiff, Nat.reduceAdd, Nat.reduceSub, Nat.reduceMul, Nat.reduceLT, Nat.reduceLeDiff, reduceCtorEq,  hf]
  refine callP (heldIntS_c f hf la k (by omega) (by omega)) (by simp -dsimp only [go_sem, ↓reduceIte, Nat.reduceEqDiff, Nat.reduceAdd, Nat.reduceSub, Nat.reduceMul, Nat.reduceLT, Nat.reduceLeDiff, reduceCtorEq,  hf]) ?_
  simp -dsimp only [go_sem, ↓reduceIte, Nat.reduceEqDiff, Nat.reduceAdd, Nat.reduceSub, Nat.reduceMul, Nat.reduceLT, Nat.reduceLeDiff, reduceCtorEq,  hf]
  refine ⟨fun h => by rw [if_pos h], fun h => ?_⟩
  rw [if_neg h]
  have e2 := heldI_rng (l := lb) (k := heldI la k) (by omega) (by omega)
  refine callP (heldIntS_c f hf lb (heldI la k) (by omega) (by omega)) (by simp -dsimp only [go_sem, ↓reduceIte, Nat.reduceEqDiff, Nat.reduceAdd, Nat.reduceSub, Nat.reduceMul, Nat.reduceLT, Nat.reduceLeDiff, reduceCtorEq,  hf]) ?_
  simp -dsimp only [go_sem, ↓reduceIte, Nat.reduceEqDiff, Nat.reduceAdd, Nat.reduceSub, Nat.reduceMul, Nat.reduceLT, Nat.reduceLeDiff, reduceCtorEq,  hf]
  refine ⟨fun h => by rw [if_pos h], fun h => ?_⟩
  rw [if_neg h]
  refine callP (heldIntS_c f hf lc (heldI lb (heldI la k)) (by omega) (by omega)) (by simp -dsimp only [go_sem, ↓reduceIte, Nat.reduceEqDiff, Nat.reduceAdd, Nat.reduceSub, Nat.reduceMul, Nat.reduceLT, Nat.reduceLeDiff, reduceCtorEq,  hf]) ?_
  simp -dsimp only [go_sem, ↓reduceIte, Nat.reduceEqDiff, Nat.reduceAdd, Nat.reduceSub, Nat.reduceMul, Nat.reduceLT, Nat.reduceLeDiff, reduceCtorEq,  hf]
  refine ⟨fun h => by rw [if_pos h], fun h => by rw [if_neg h]⟩

theorem Prg.small_mark {p : Prg} {k : Int} (h : p.small) : (markP p k).small := by
  unfold Prg.small markP at *
  simpa using h
/-- a program's own rows lent -/
theorem lendP {H : List Ob} {p : Prg} {ia ib ic : Nat} {ta tb tc : TypeId} (h1 : H[ia]? = some ⟨.own, ta, iC p.a⟩) (h2 : H[ib]? = some ⟨.own, tb, iC p.b⟩) (h3 : H[ic]? = some ⟨.own, tc, iC p.c⟩) :
    Le H .b (.agg [I p.rows, I p.cols, .rsl ia 1 0 p.a.length, .rsl ib 1 0 p.b.length, .rsl ic 1 0 p.c.length]) (pV .b p) :=
  .agg _ _ (.cons _ _ _ _ (.lit _) (.cons _ _ _ _ (.lit _) (.cons _ _ _ _ (Le.ownI0 h1 rfl) (.cons _ _ _ _ (Le.ownI0 h2 rfl) (.cons _ _ _ _ (Le.ownI0 h3 rfl) .nil)))))
end Go.Proofs.Ytekhgkpnhenecaa
