/- Contracts: programs. -/
import Derived.Test.YtekhgkpnhenecaaWk
namespace Go.Proofs.Ytekhgkpnhenecaa
open Go Go.RowKit
set_option maxRecDepth 100000
set_option linter.unusedVariables false
set_option linter.unusedSimpArgs false

theorem l01In_c (n lo hi : Int) : PC PP F_spec_l01In [I n, I lo, I hi] (Bo (decide (lo ≤ n ∧ n ≤ hi))) [] := by
  refine tx W_spec_l01In ke_spec_l01In [] (by kernel_rfl) ?_
  simp -dsimp only [go_sem, ↓reduceIte, Nat.reduceEqDiff, Nat.reduceAdd, Nat.reduceSub, Nat.reduceMul, Nat.reduceLT, Nat.reduceLeDiff, reduceCtorEq]
  refine ⟨fun h => ?_, fun h => ?_⟩
  · simp [h]
  · simp [h]

def inB (lo hi : Int) (l : List Int) : Bool := l.all fun n => decide (lo ≤ n ∧ n ≤ hi)

theorem all_take_succ {p : Int → Bool} {l : List Int} {k : Nat} (h : k < l.length) : (l.take (k + 1)).all p = ((l.take k).all p && p (l.getD k 0)) := by
  rw [List.take_succ_eq_append_getElem h, List.all_append]
  simp [h]
theorem all_get {p : Int → Bool} {l : List Int} {k : Nat} (h : k < l.length) (hl : l.all p = true) : p (l.getD k 0) = true := by
  have := List.all_eq_true.1 hl l[k] (List.getElem_mem h)
  simpa [h] using this

theorem l09In_c (f : Fl) (hf : f ≠ .u) (l : List Int) (hl : l.length ≤ 1048576) : PC PP F_spec_l09In [sI f l] (Bo (inB (-100) 100 l)) [] := by
  refine tx W_spec_l09In ke_spec_l09In [] (by kernel_rfl) ?_
  simp -dsimp only [go_sem, ↓reduceIte, Nat.reduceEqDiff, Nat.reduceAdd, Nat.reduceSub, Nat.reduceMul, Nat.reduceLT, Nat.reduceLeDiff, reduceCtorEq]
  refine loopI (fun k : Nat => k ≤ l.length ∧ inB (-100) 100 (l.take k) = true) (fun k => ⟨[(0, sI f l), (5, sI f l), (6, I l.length), (7, I k)], []⟩) (fun k => l.length - k) 0 ⟨by omega, rfl⟩ ?_ ?_
  · simp -dsimp only [go_sem, ↓reduceIte, Nat.reduceEqDiff, Nat.reduceAdd, Nat.reduceSub, Nat.reduceMul, Nat.reduceLT, Nat.reduceLeDiff, reduceCtorEq]; simp
  intro k ⟨hk, hp⟩
  simp -dsimp only [go_sem, ↓reduceIte, Nat.reduceEqDiff, Nat.reduceAdd, Nat.reduceSub, Nat.reduceMul, Nat.reduceLT, Nat.reduceLeDiff, reduceCtorEq]
  refine ⟨fun h => ⟨by omega, h, by omega, ?_⟩, fun h => ?_⟩
  · have hk' : k < l.length := by omega
    rw [iC_get hk']
    simp -dsimp only [go_sem, ↓reduceIte, Nat.reduceEqDiff, Nat.reduceAdd, Nat.reduceSub, Nat.reduceMul, Nat.reduceLT, Nat.reduceLeDiff, reduceCtorEq]
    refine callP (l01In_c _ _ _) (by repeat' constructor) ?_
    simp -dsimp only [go_sem, ↓reduceIte, Nat.reduceEqDiff, Nat.reduceAdd, Nat.reduceSub, Nat.reduceMul, Nat.reduceLT, Nat.reduceLeDiff, reduceCtorEq]
    refine ⟨fun h => ?_, fun h => ⟨k + 1, ⟨by omega, ?_⟩, by omega, ?_⟩⟩
    · cases hb : inB (-100) 100 l with
      | false => rfl
      | true =>
        have := all_get hk' hb
        simp only [Bool.not_eq_true', decide_eq_false_iff_not, decide_eq_true_eq] at h this
        exact absurd this h
    · unfold inB at *
      rw [all_take_succ hk', hp]
      simpa using h
    · rw [w64 (by omega)]; omega
  · have : k = l.length := by omega
    subst this
    rw [List.take_length] at hp
    rw [hp]

structure Prg where
  rows : Int
  cols : Int
  a : List Int
  b : List Int
  c : List Int
def pC (f : Fl) (p : Prg) : List V := [I p.rows, I p.cols, sI f p.a, sI f p.b, sI f p.c]
abbrev pV (f : Fl) (p : Prg) : V := .agg (pC f p)
def okP' (p : Prg) : Bool := decide (0 ≤ p.rows ∧ p.rows ≤ 20) && (decide (0 ≤ p.cols ∧ p.cols ≤ 40) && (decide ((p.a.length : Int) = p.rows * p.cols) && (decide ((p.b.length : Int) = p.rows) && (decide ((p.c.length : Int) = p.cols) &&
  (inB (-100) 100 p.a && (inB (-100) 100 p.b && inB (-100) 100 p.c))))))
def Prg.small (p : Prg) : Prop := p.a.length ≤ 1048576 ∧ p.b.length ≤ 1048576 ∧ p.c.length ≤ 1048576

theorem spec_ProgramOk_c (f : Fl) (hf : f ≠ .u) (p : Prg) (hp : p.small) : PC PP F_spec_ProgramOk [pV f p] (Bo (okP' p)) [] := by
  refine tx W_spec_ProgramOk ke_spec_ProgramOk [] (by kernel_rfl) ?_
  simp only [pV, pC]
  obtain ⟨r, c, la, lb, lc⟩ := p
  obtain ⟨ha, hb, hc⟩ := hp
  simp only at ha hb hc
  simp -dsimp only [go_sem, ↓reduceIte, Nat.reduceEqDiff, Nat.reduceAdd, Nat.reduceSub, Nat.reduceMul, Nat.reduceLT, Nat.reduceLeDiff, reduceCtorEq]
  refine callP (l01In_c r 0 20) (by repeat' constructor) ?_
  simp -dsimp only [go_sem, ↓reduceIte, Nat.reduceEqDiff, Nat.reduceAdd, Nat.reduceSub, Nat.reduceMul, Nat.reduceLT, Nat.reduceLeDiff, reduceCtorEq]
  refine ⟨fun h1 => ?_, fun h1 => by simp [okP', h1]⟩
  refine callP (l01In_c c 0 40) (by repeat' constructor) ?_
  simp -dsimp only [go_sem, ↓reduceIte, Nat.reduceEqDiff, Nat.reduceAdd, Nat.reduceSub, Nat.reduceMul, Nat.reduceLT, Nat.reduceLeDiff, reduceCtorEq,  hf]
  refine ⟨fun h2 => ?_, fun h2 => by simp [okP', h2]⟩
  have hm : 0 ≤ r * c ∧ r * c ≤ 800 := ⟨Int.mul_nonneg h1.1 h2.1, Int.le_trans (Int.mul_le_mul h1.2 h2.2 h2.1 (by omega)) (by omega)⟩
  rw [w64 (n := r * c) (by omega)]
  refine ⟨fun h3 => ⟨fun h4 => ⟨fun h5 => ?_, fun h5 => by simp [okP', h5]⟩, fun h4 => by simp [okP', h4]⟩, fun h3 => by simp [okP', h3]⟩
  refine callP (l09In_c f hf la ha) (by simp -dsimp only [go_sem, ↓reduceIte, Nat.reduceEqDiff, Nat.reduceAdd, Nat.reduceSub, Nat.reduceMul, Nat.reduceLT, Nat.reduceLeDiff, reduceCtorEq,  hf]) ?_
  simp -dsimp only [go_sem, ↓reduceIte, Nat.reduceEqDiff, Nat.reduceAdd, Nat.reduceSub, Nat.reduceMul, Nat.reduceLT, Nat.reduceLeDiff, reduceCtorEq,  hf]
  refine ⟨fun h6 => ?_, fun h6 => by simp [okP', h6]⟩
  refine callP (l09In_c f hf lb hb) (by simp -dsimp only [go_sem, ↓reduceIte, Nat.reduceEqDiff, Nat.reduceAdd, Nat.reduceSub, Nat.reduceMul, Nat.reduceLT, Nat.reduceLeDiff, reduceCtorEq,  hf]) ?_
  simp -dsimp only [go_sem, ↓reduceIte, Nat.reduceEqDiff, Nat.reduceAdd, Nat.reduceSub, Nat.reduceMul, Nat.reduceLT, Nat.reduceLeDiff, reduceCtorEq,  hf]
  refine ⟨fun h7 => ?_, fun h7 => by simp [okP', h7]⟩
  refine callP (l09In_c f hf lc hc) (by simp -dsimp only [go_sem, ↓reduceIte, Nat.reduceEqDiff, Nat.reduceAdd, Nat.reduceSub, Nat.reduceMul, Nat.reduceLT, Nat.reduceLeDiff, reduceCtorEq,  hf]) ?_
  simp -dsimp only [go_sem, ↓reduceIte, Nat.reduceEqDiff, Nat.reduceAdd, Nat.reduceSub, Nat.reduceMul, Nat.reduceLT, Nat.reduceLeDiff, reduceCtorEq,  hf]
  simp [okP', h1, h2, h3, h4, h5, h6, h7]

def szI (n : Int) (k : Nat) : Int := if n - k < 0 then -1 else n - k
theorem szI_rng {n : Int} {k : Nat} (h : n ≤ 1048576) : -1 ≤ szI n k ∧ szI n k ≤ 1048576 := by unfold szI; split <;> omega
theorem szI_nn {n : Int} {k : Nat} (h : 0 ≤ szI n k) : (k : Int) ≤ n := by unfold szI at h; split at h <;> omega

theorem szIntS_c (f : Fl) (hf : f ≠ .u) (l : List Int) (n : Int) (hl : l.length ≤ 9223372036854775807) (hn : -1 ≤ n ∧ n ≤ 1048576) : PC PP F_laws_szIntS [sI f l, I n] (I (szI n l.length)) [] := by
  refine tx W_laws_szIntS ke_laws_szIntS [] (by kernel_rfl) ?_
  simp -dsimp only [go_sem, ↓reduceIte, Nat.reduceEqDiff, Nat.reduceAdd, Nat.reduceSub, Nat.reduceMul, Nat.reduceLT, Nat.reduceLeDiff, reduceCtorEq]
  unfold szI
  rw [w64 (by omega)]
  exact ⟨fun h => by rw [if_pos h], fun h => by rw [if_neg h]⟩

theorem areEntries1_c (n : Int) : PC PP F_impl_areEntries_1 [I n] (Bo (!decide (-100 ≤ n ∧ n ≤ 100))) [] := by
  refine tx W_impl_areEntries_1 ke_impl_areEntries_1 [] (by kernel_rfl) ?_
  simp -dsimp only [go_sem, ↓reduceIte, Nat.reduceEqDiff, Nat.reduceAdd, Nat.reduceSub, Nat.reduceMul, Nat.reduceLT, Nat.reduceLeDiff, reduceCtorEq]
  refine ⟨fun h => ?_, fun h => ?_⟩
  · rw [← decide_not]; congr 1; apply propext; omega
  · have : ¬ (-100 ≤ n ∧ n ≤ 100) := by omega
    simp [this]

/-- where the first one lies that p tells, or -1 -/
def ixB (p : Int → Bool) (l : List Int) : Int := if l.any p = true then (l.findIdx p : Nat) else -1

theorem any_take_succ {p : Int → Bool} {l : List Int} {k : Nat} (h : k < l.length) : (l.take (k + 1)).any p = ((l.take k).any p || p (l.getD k 0)) := by
  rw [List.take_succ_eq_append_getElem h, List.any_append]
  simp [h]

theorem indexI_c (f : Fl) (hf : f ≠ .u) (l : List Int) (hl : l.length ≤ 1048576) (g : FuncId) (p : Int → Bool) (hg : ∀ n, PC PP g [I n] (Bo (p n)) []) :
    PC PP F_slices_IndexFunc_int_int [sI f l, .fn (.func g) [] []] (I (ixB p l)) [] := by
  refine tx W_slices_IndexFunc_int_int ke_slices_IndexFunc_int_int [] (by kernel_rfl) ?_
  simp -dsimp only [go_sem, ↓reduceIte, Nat.reduceEqDiff, Nat.reduceAdd, Nat.reduceSub, Nat.reduceMul, Nat.reduceLT, Nat.reduceLeDiff, reduceCtorEq]
  refine loopI (fun k : Nat => k ≤ l.length ∧ (l.take k).any p = false) (fun k => ⟨[(0, sI f l), (1, .fn (.func g) [] []), (7, I l.length), (8, I k)], []⟩) (fun k => l.length - k) 0 ⟨by omega, rfl⟩ ?_ ?_
  · simp -dsimp only [go_sem, ↓reduceIte, Nat.reduceEqDiff, Nat.reduceAdd, Nat.reduceSub, Nat.reduceMul, Nat.reduceLT, Nat.reduceLeDiff, reduceCtorEq]; simp
  intro k ⟨hk, hp⟩
  simp -dsimp only [go_sem, ↓reduceIte, Nat.reduceEqDiff, Nat.reduceAdd, Nat.reduceSub, Nat.reduceMul, Nat.reduceLT, Nat.reduceLeDiff, reduceCtorEq]
  refine ⟨fun h => ⟨by omega, h, by omega, ?_⟩, fun h => ?_⟩
  · have hk' : k < l.length := by omega
    rw [iC_get hk']
    simp -dsimp only [go_sem, ↓reduceIte, Nat.reduceEqDiff, Nat.reduceAdd, Nat.reduceSub, Nat.reduceMul, Nat.reduceLT, Nat.reduceLeDiff, reduceCtorEq]
    refine callP (hg _) (by repeat' constructor) ?_
    simp -dsimp only [go_sem, ↓reduceIte, Nat.reduceEqDiff, Nat.reduceAdd, Nat.reduceSub, Nat.reduceMul, Nat.reduceLT, Nat.reduceLeDiff, reduceCtorEq]
    refine ⟨fun h => ?_, fun h => ⟨k + 1, ⟨by omega, ?_⟩, by omega, ?_⟩⟩
    · have ha : l.any p = true := by
        refine List.any_eq_true.2 ⟨l[k], List.getElem_mem hk', ?_⟩
        simpa [hk'] using h
      unfold ixB
      rw [if_pos ha]
      have : l.findIdx p = k := by
        rw [List.findIdx_eq hk']
        refine ⟨by simpa [hk'] using h, fun j hj => ?_⟩
        have hj' : j < (l.take k).length := by rw [List.length_take]; omega
        have := List.any_eq_false.1 hp (l.take k)[j] (List.getElem_mem hj')
        simpa using this
      rw [this]
    · rw [any_take_succ hk', hp, h]; rfl
    · rw [w64 (by omega)]; omega
  · have : k = l.length := by omega
    subst this
    rw [List.take_length] at hp
    unfold ixB
    rw [hp]; rfl

/-- a function value that tells ints by p -/
theorem containsI_c (f : Fl) (hf : f ≠ .u) (l : List Int) (hl : l.length ≤ 1048576) (g : FuncId) (p : Int → Bool) (hg : ∀ n, PC PP g [I n] (Bo (p n)) []) :
    PC PP F_slices_ContainsFunc_int_int [sI f l, .fn (.func g) [] []] (Bo (l.any p)) [] := by
  refine tx W_slices_ContainsFunc_int_int ke_slices_ContainsFunc_int_int [] (by kernel_rfl) ?_
  simp -dsimp only [go_sem, ↓reduceIte, Nat.reduceEqDiff, Nat.reduceAdd, Nat.reduceSub, Nat.reduceMul, Nat.reduceLT, Nat.reduceLeDiff, reduceCtorEq]
  refine callP (indexI_c f hf l hl g p hg) ?_ ?_
  · simp -dsimp only [go_sem, ↓reduceIte, Nat.reduceEqDiff, Nat.reduceAdd, Nat.reduceSub, Nat.reduceMul, Nat.reduceLT, Nat.reduceLeDiff, reduceCtorEq,  hf]
  simp -dsimp only [go_sem, ↓reduceIte, Nat.reduceEqDiff, Nat.reduceAdd, Nat.reduceSub, Nat.reduceMul, Nat.reduceLT, Nat.reduceLeDiff, reduceCtorEq]
  unfold ixB
  cases l.any p with
  | true => simp
  | false => simp

theorem areEntries_c (f : Fl) (hf : f ≠ .u) (l : List Int) (hl : l.length ≤ 1048576) : PC PP F_impl_areEntries [sI f l] (Bo (inB (-100) 100 l)) [] := by
  refine tx W_impl_areEntries ke_impl_areEntries [] (by kernel_rfl) ?_
  simp -dsimp only [go_sem, ↓reduceIte, Nat.reduceEqDiff, Nat.reduceAdd, Nat.reduceSub, Nat.reduceMul, Nat.reduceLT, Nat.reduceLeDiff, reduceCtorEq]
  refine callP (containsI_c f hf l hl F_impl_areEntries_1 _ areEntries1_c) ?_ ?_
  · simp -dsimp only [go_sem, ↓reduceIte, Nat.reduceEqDiff, Nat.reduceAdd, Nat.reduceSub, Nat.reduceMul, Nat.reduceLT, Nat.reduceLeDiff, reduceCtorEq,  hf]
  simp -dsimp only [go_sem, ↓reduceIte, Nat.reduceEqDiff, Nat.reduceAdd, Nat.reduceSub, Nat.reduceMul, Nat.reduceLT, Nat.reduceLeDiff, reduceCtorEq]
  unfold inB
  rw [List.any_eq_not_all_not]
  simp

theorem impl_ProgramOk_c (f : Fl) (hf : f ≠ .u) (p : Prg) (hp : p.small) : PC PP F_impl_ProgramOk [pV f p] (Bo (okP' p)) [] := by
  refine tx W_impl_ProgramOk ke_impl_ProgramOk [] (by kernel_rfl) ?_
  simp only [pV, pC]
  obtain ⟨r, c, la, lb, lc⟩ := p
  obtain ⟨ha, hb, hc⟩ := hp
  simp only at ha hb hc
  simp -dsimp only [go_sem, ↓reduceIte, Nat.reduceEqDiff, Nat.reduceAdd, Nat.reduceSub, Nat.reduceMul, Nat.reduceLT, Nat.reduceLeDiff, reduceCtorEq,  hf]
  refine ⟨fun h1 => ⟨fun h2 => ⟨fun h3 => ⟨fun h4 => ?_, fun h4 => by simp [okP', h4]⟩, fun h3 => by simp [okP', h3]⟩, fun h2 => by simp [okP', h2]⟩, fun h1 => by simp [okP', h1]⟩
  have hm : 0 ≤ r * c ∧ r * c ≤ 800 := ⟨Int.mul_nonneg h1 h3, Int.le_trans (Int.mul_le_mul h2 h4 h3 (by omega)) (by omega)⟩
  rw [w64 (n := r * c) (by omega)]
  refine ⟨fun h5 => ⟨fun h6 => ⟨fun h7 => ?_, fun h7 => by simp [okP', h7]⟩, fun h6 => by simp [okP', h6]⟩, fun h5 => by simp [okP', h5]⟩
  refine callP (areEntries_c f hf la ha) (by simp -dsimp only [go_sem, ↓reduceIte, Nat.reduceEqDiff, Nat.reduceAdd, Nat.reduceSub, Nat.reduceMul, Nat.reduceLT, Nat.reduceLeDiff, reduceCtorEq,  hf]) ?_
  simp -dsimp only [go_sem, ↓reduceIte, Nat.reduceEqDiff, Nat.reduceAdd, Nat.reduceSub, Nat.reduceMul, Nat.reduceLT, Nat.reduceLeDiff, reduceCtorEq,  hf]
  refine ⟨fun h8 => ?_, fun h8 => by simp [okP', h8]⟩
  refine callP (areEntries_c f hf lb hb) (by simp -dsimp only [go_sem, ↓reduceIte, Nat.reduceEqDiff, Nat.reduceAdd, Nat.reduceSub, Nat.reduceMul, Nat.reduceLT, Nat.reduceLeDiff, reduceCtorEq,  hf]) ?_
  simp -dsimp only [go_sem, ↓reduceIte, Nat.reduceEqDiff, Nat.reduceAdd, Nat.reduceSub, Nat.reduceMul, Nat.reduceLT, Nat.reduceLeDiff, reduceCtorEq,  hf]
  refine ⟨fun h9 => ?_, fun h9 => by simp [okP', h9]⟩
  refine callP (areEntries_c f hf lc hc) (by simp -dsimp only [go_sem, ↓reduceIte, Nat.reduceEqDiff, Nat.reduceAdd, Nat.reduceSub, Nat.reduceMul, Nat.reduceLT, Nat.reduceLeDiff, reduceCtorEq,  hf]) ?_
  simp -dsimp only [go_sem, ↓reduceIte, Nat.reduceEqDiff, Nat.reduceAdd, Nat.reduceSub, Nat.reduceMul, Nat.reduceLT, Nat.reduceLeDiff, reduceCtorEq,  hf]
  simp [okP', h1, h2, h3, h4, h5, h6, h7, h8, h9]

def szP (p : Prg) : Int := if szI 1048576 p.a.length < 0 then -1 else if szI (szI 1048576 p.a.length) p.b.length < 0 then -1 else if szI (szI (szI 1048576 p.a.length) p.b.length) p.c.length < 0 then -1 else szI (szI (szI 1048576 p.a.length) p.b.length) p.c.length
theorem szP_small {p : Prg} (h : 0 ≤ szP p) : p.small := by
  unfold szP at h
  split at h
  · omega
  · split at h
    · omega
    · split at h
      · omega
      · rename_i h1 h2 h3
        have e1 := szI_nn (Int.not_lt.1 h1)
        have e2 := szI_nn (Int.not_lt.1 h2)
        have e3 := szI_nn (Int.not_lt.1 h3)
        have f1 := (szI_rng (n := 1048576) (k := p.a.length) (by omega)).2
        have f2 := (szI_rng (n := szI 1048576 p.a.length) (k := p.b.length) f1).2
        exact ⟨by omega, by omega, by omega⟩

theorem szProgram_c (f : Fl) (hf : f ≠ .u) (p : Prg) (h1 : p.a.length ≤ 9223372036854775807) (h2 : p.b.length ≤ 9223372036854775807) (h3 : p.c.length ≤ 9223372036854775807) :
    PC PP F_laws_szProgram [pV f p, I 1048576] (I (szP p)) [] := by
  obtain ⟨r, c, la, lb, lc⟩ := p
  simp only at h1 h2 h3
  unfold szP
  simp only
  have f1 := szI_rng (n := 1048576) (k := la.length) (by omega)
  have f2 := szI_rng (n := szI 1048576 la.length) (k := lb.length) f1.2
  have f3 := szI_rng (n := szI (szI 1048576 la.length) lb.length) (k := lc.length) f2.2
  refine tx W_laws_szProgram ke_laws_szProgram [] (by kernel_rfl) ?_
  simp only [pV, pC]
  simp -dsimp only [go_sem, ↓reduceIte, Nat.reduceEqDiff, Nat.reduceAdd, Nat.reduceSub, Nat.reduceMul, Nat.reduceLT, Nat.reduceLeDiff, reduceCtorEq,  hf]
  refine callP (szIntS_c f hf la 1048576 h1 (by omega)) (by simp -dsimp only [go_sem, ↓reduceIte, Nat.reduceEqDiff, Nat.reduceAdd, Nat.reduceSub, Nat.reduceMul, Nat.reduceLT, Nat.reduceLeDiff, reduceCtorEq,  hf]) ?_
  simp -dsimp only [go_sem, ↓reduceIte, Nat.reduceEqDiff, Nat.reduceAdd, Nat.reduceSub, Nat.reduceMul, Nat.reduceLT, Nat.reduceLeDiff, reduceCtorEq,  hf]
  refine ⟨fun h4 => by rw [if_pos h4], fun h4 => ?_⟩
  rw [if_neg h4]
  refine callP (szIntS_c f hf lb (szI 1048576 la.length) h2 f1) (by simp -dsimp only [go_sem, ↓reduceIte, Nat.reduceEqDiff, Nat.reduceAdd, Nat.reduceSub, Nat.reduceMul, Nat.reduceLT, Nat.reduceLeDiff, reduceCtorEq,  hf]) ?_
  simp -dsimp only [go_sem, ↓reduceIte, Nat.reduceEqDiff, Nat.reduceAdd, Nat.reduceSub, Nat.reduceMul, Nat.reduceLT, Nat.reduceLeDiff, reduceCtorEq,  hf]
  refine ⟨fun h5 => by rw [if_pos h5], fun h5 => ?_⟩
  rw [if_neg h5]
  refine callP (szIntS_c f hf lc (szI (szI 1048576 la.length) lb.length) h3 f2) (by simp -dsimp only [go_sem, ↓reduceIte, Nat.reduceEqDiff, Nat.reduceAdd, Nat.reduceSub, Nat.reduceMul, Nat.reduceLT, Nat.reduceLeDiff, reduceCtorEq,  hf]) ?_
  simp -dsimp only [go_sem, ↓reduceIte, Nat.reduceEqDiff, Nat.reduceAdd, Nat.reduceSub, Nat.reduceMul, Nat.reduceLT, Nat.reduceLeDiff, reduceCtorEq,  hf]
  refine ⟨fun h6 => by rw [if_pos h6], fun h6 => by rw [if_neg h6]⟩

theorem fill_step {α : Type} {l : List α} {k : Nat} {z : α} (h : k < l.length) : (l.take k ++ List.replicate (l.length - k) z).set k (l.getD k z) = l.take (k + 1) ++ List.replicate (l.length - (k + 1)) z := by
  have e : l.length - k = (l.length - (k + 1)) + 1 := by omega
  rw [e, List.replicate_succ, List.set_append_right _ _ (by rw [List.length_take]; omega), List.length_take, Nat.min_eq_left (by omega), Nat.sub_self, List.set_cons_zero, List.take_succ_eq_append_getElem h, List.append_assoc, List.singleton_append]
  simp [h]
theorem take_eq_succ {l m : List Int} {k : Nat} (hl : k < l.length) (hm : k < m.length) (h : l.take k = m.take k) (he : l.getD k 0 = m.getD k 0) : l.take (k + 1) = m.take (k + 1) := by
  rw [List.take_succ_eq_append_getElem hl, List.take_succ_eq_append_getElem hm, h]
  simp [hl, hm] at he
  rw [he]

theorem toIntS_c (f : Fl) (hf : f ≠ .u) (l : List Int) (hl : l.length ≤ 1048576) : PC PP F_laws_toIntS [sI f l] (sI .s l) [] := by
  refine tx W_laws_toIntS ke_laws_toIntS [] (by kernel_rfl) ?_
  simp -dsimp only [go_sem, ↓reduceIte, Nat.reduceEqDiff, Nat.reduceAdd, Nat.reduceSub, Nat.reduceMul, Nat.reduceLT, Nat.reduceLeDiff, reduceCtorEq,  hf]
  refine ⟨by omega, by omega, by omega, ?_⟩
  rw [iC_zero]
  refine loopI (fun k : Nat => k ≤ l.length) (fun k => ⟨[(0, sI f l), (3, .rsl 0 1 0 l.length), (4, I k)], [⟨.own, T_int, iC (l.take k ++ List.replicate (l.length - k) 0)⟩]⟩) (fun k => l.length - k) 0 (by omega) ?_ ?_
  · simp -dsimp only [go_sem, ↓reduceIte, Nat.reduceEqDiff, Nat.reduceAdd, Nat.reduceSub, Nat.reduceMul, Nat.reduceLT, Nat.reduceLeDiff, reduceCtorEq]; simp
  intro k hk
  simp -dsimp only [go_sem, ↓reduceIte, Nat.reduceEqDiff, Nat.reduceAdd, Nat.reduceSub, Nat.reduceMul, Nat.reduceLT, Nat.reduceLeDiff, reduceCtorEq,  hf]
  refine ⟨fun h => ⟨by omega, h, by omega, ?_⟩, fun h => ?_⟩
  · have hk' : k < l.length := by omega
    rw [iC_get hk']
    simp -dsimp only [go_sem, ↓reduceIte, Nat.reduceEqDiff, Nat.reduceAdd, Nat.reduceSub, Nat.reduceMul, Nat.reduceLT, Nat.reduceLeDiff, reduceCtorEq]
    refine ⟨by omega, h, by rw [List.length_replicate]; omega, k + 1, by omega, by omega, by rw [w64 (by omega)]; omega, ?_⟩
    have e := iC_set (l := l.take k ++ List.replicate (l.length - k) 0) (i := k) (v := l.getD k 0) (by rw [List.length_append, List.length_take, List.length_replicate]; omega)
    rw [e, vkL_iC, fill_step hk']
  · have : k = l.length := by omega
    subst this
    exact Le.ownI0 (ty := T_int) (by simp) rfl

theorem eqIntS_c (f g : Fl) (hf : f ≠ .u) (hg : g ≠ .u) (l m : List Int) (hl : l.length ≤ 1048576) : PC PP F_laws_eqIntS [sI f l, sI g m] (Bo (decide (l = m))) [] := by
  refine tx W_laws_eqIntS ke_laws_eqIntS [] (by kernel_rfl) ?_
  simp -dsimp only [go_sem, ↓reduceIte, Nat.reduceEqDiff, Nat.reduceAdd, Nat.reduceSub, Nat.reduceMul, Nat.reduceLT, Nat.reduceLeDiff, reduceCtorEq,  hf]
  refine ⟨fun h => ?_, fun h => ?_⟩
  · have : l ≠ m := by rintro rfl; exact h rfl
    simp [this]
  have hlm : l.length = m.length := by omega
  refine loopI (fun k : Nat => k ≤ l.length ∧ l.take k = m.take k) (fun k => ⟨[(0, sI f l), (1, sI g m), (5, I k)], []⟩) (fun k => l.length - k) 0 ⟨by omega, rfl⟩ ?_ ?_
  · simp -dsimp only [go_sem, ↓reduceIte, Nat.reduceEqDiff, Nat.reduceAdd, Nat.reduceSub, Nat.reduceMul, Nat.reduceLT, Nat.reduceLeDiff, reduceCtorEq]; simp
  intro k ⟨hk, hp⟩
  simp -dsimp only [go_sem, ↓reduceIte, Nat.reduceEqDiff, Nat.reduceAdd, Nat.reduceSub, Nat.reduceMul, Nat.reduceLT, Nat.reduceLeDiff, reduceCtorEq,  hf]
  refine ⟨fun h => ⟨by omega, h, by omega, ?_⟩, fun h => ?_⟩
  · have hk' : k < l.length := by omega
    have hm' : k < m.length := by omega
    rw [iC_get hk']
    simp -dsimp only [go_sem, ↓reduceIte, Nat.reduceEqDiff, Nat.reduceAdd, Nat.reduceSub, Nat.reduceMul, Nat.reduceLT, Nat.reduceLeDiff, reduceCtorEq]
    refine ⟨by omega, by omega, by omega, ?_⟩
    rw [iC_get hm']
    simp -dsimp only [go_sem, ↓reduceIte, Nat.reduceEqDiff, Nat.reduceAdd, Nat.reduceSub, Nat.reduceMul, Nat.reduceLT, Nat.reduceLeDiff, reduceCtorEq]
    refine ⟨fun h => ?_, fun h => ⟨k + 1, ⟨by omega, ?_⟩, by omega, ?_⟩⟩
    · have : l ≠ m := by rintro rfl; exact h rfl
      simp [this]
    · exact take_eq_succ hk' hm' hp (by simpa using h)
    · rw [w64 (by omega)]; omega
  · have : k = l.length := by omega
    subst this
    rw [List.take_length, hlm, List.take_length] at hp
    simp [hp]

theorem toProgram_c (f : Fl) (hf : f ≠ .u) (p : Prg) (hp : p.small) : PC PP F_laws_toProgram [pV f p] (pV .s p) [] := by
  obtain ⟨r, c, la, lb, lc⟩ := p
  obtain ⟨ha, hb, hc⟩ := hp
  simp only at ha hb hc
  refine tx W_laws_toProgram ke_laws_toProgram [] (by kernel_rfl) ?_
  simp only [pV, pC]
  simp -dsimp only [go_sem, ↓reduceIte, Nat.reduceEqDiff, Nat.reduceAdd, Nat.reduceSub, Nat.reduceMul, Nat.reduceLT, Nat.reduceLeDiff, reduceCtorEq,  hf]
  refine callP (toIntS_c f hf la ha) (by simp -dsimp only [go_sem, ↓reduceIte, Nat.reduceEqDiff, Nat.reduceAdd, Nat.reduceSub, Nat.reduceMul, Nat.reduceLT, Nat.reduceLeDiff, reduceCtorEq,  hf]) ?_
  simp -dsimp only [go_sem, ↓reduceIte, Nat.reduceEqDiff, Nat.reduceAdd, Nat.reduceSub, Nat.reduceMul, Nat.reduceLT, Nat.reduceLeDiff, reduceCtorEq,  hf]
  refine callP (toIntS_c f hf lb hb) (by simp -dsimp only [go_sem, ↓reduceIte, Nat.reduceEqDiff, Nat.reduceAdd, Nat.reduceSub, Nat.reduceMul, Nat.reduceLT, Nat.reduceLeDiff, reduceCtorEq,  hf]) ?_
  simp -dsimp only [go_sem, ↓reduceIte, Nat.reduceEqDiff, Nat.reduceAdd, Nat.reduceSub, Nat.reduceMul, Nat.reduceLT, Nat.reduceLeDiff, reduceCtorEq,  hf]
  refine callP (toIntS_c f hf lc hc) (by simp -dsimp only [go_sem, ↓reduceIte, Nat.reduceEqDiff, Nat.reduceAdd, Nat.reduceSub, Nat.reduceMul, Nat.reduceLT, Nat.reduceLeDiff, reduceCtorEq,  hf]) ?_
  simp -dsimp only [go_sem, ↓reduceIte, Nat.reduceEqDiff, Nat.reduceAdd, Nat.reduceSub, Nat.reduceMul, Nat.reduceLT, Nat.reduceLeDiff, reduceCtorEq,  hf]

theorem eqProgram_c (f g : Fl) (hf : f ≠ .u) (hg : g ≠ .u) (p : Prg) (hp : p.small) : PC PP F_laws_eqProgram [pV f p, pV g p] (Bo true) [] := by
  obtain ⟨r, c, la, lb, lc⟩ := p
  obtain ⟨ha, hb, hc⟩ := hp
  simp only at ha hb hc
  refine tx W_laws_eqProgram ke_laws_eqProgram [] (by kernel_rfl) ?_
  simp only [pV, pC]
  simp -dsimp only [go_sem, ↓reduceIte, Nat.reduceEqDiff, Nat.reduceAdd, Nat.reduceSub, Nat.reduceMul, Nat.reduceLT, Nat.reduceLeDiff, reduceCtorEq,  hf, hg]
  refine callP (eqIntS_c f g hf hg la la ha) (by simp -dsimp only [go_sem, ↓reduceIte, Nat.reduceEqDiff, Nat.reduceAdd, Nat.reduceSub, Nat.reduceMul, Nat.reduceLT, Nat.reduceLeDiff, reduceCtorEq,  hf, hg]) ?_
  simp -dsimp only [go_sem, ↓reduceIte, Nat.reduceEqDiff, Nat.reduceAdd, Nat.reduceSub, Nat.reduceMul, Nat.reduceLT, Nat.reduceLeDiff, reduceCtorEq,  hf, hg, decide_true]
  refine callP (eqIntS_c f g hf hg lb lb hb) (by simp -dsimp only [go_sem, ↓reduceIte, Nat.reduceEqDiff, Nat.reduceAdd, Nat.reduceSub, Nat.reduceMul, Nat.reduceLT, Nat.reduceLeDiff, reduceCtorEq,  hf, hg]) ?_
  simp -dsimp only [go_sem, ↓reduceIte, Nat.reduceEqDiff, Nat.reduceAdd, Nat.reduceSub, Nat.reduceMul, Nat.reduceLT, Nat.reduceLeDiff, reduceCtorEq,  hf, hg, decide_true]
  refine callP (eqIntS_c f g hf hg lc lc hc) (by simp -dsimp only [go_sem, ↓reduceIte, Nat.reduceEqDiff, Nat.reduceAdd, Nat.reduceSub, Nat.reduceMul, Nat.reduceLT, Nat.reduceLeDiff, reduceCtorEq,  hf, hg]) ?_
  simp -dsimp only [go_sem, ↓reduceIte, Nat.reduceEqDiff, Nat.reduceAdd, Nat.reduceSub, Nat.reduceMul, Nat.reduceLT, Nat.reduceLeDiff, reduceCtorEq,  hf, hg, decide_true]

theorem FnExactProgramOk_c (f : Fl) (hf : f ≠ .u) (p : Prg) (h1 : p.a.length ≤ 9223372036854775807) (h2 : p.b.length ≤ 9223372036854775807) (h3 : p.c.length ≤ 9223372036854775807) :
    PC PP F_laws_FnExactProgramOk [pV f p] (Bo true) [] := by
  refine tx W_laws_FnExactProgramOk ke_laws_FnExactProgramOk [] (by kernel_rfl) ?_
  have hs := szProgram_c f hf p h1 h2 h3
  have hz := @szP_small p
  generalize szP p = z at hs hz
  simp only [pV, pC]
  simp -dsimp only [go_sem, ↓reduceIte, Nat.reduceEqDiff, Nat.reduceAdd, Nat.reduceSub, Nat.reduceMul, Nat.reduceLT, Nat.reduceLeDiff, reduceCtorEq,  hf]
  refine callP hs (by simp -dsimp only [go_sem, ↓reduceIte, Nat.reduceEqDiff, Nat.reduceAdd, Nat.reduceSub, Nat.reduceMul, Nat.reduceLT, Nat.reduceLeDiff, reduceCtorEq,  hf, pC]) ?_
  simp -dsimp only [go_sem, ↓reduceIte, Nat.reduceEqDiff, Nat.reduceAdd, Nat.reduceSub, Nat.reduceMul, Nat.reduceLT, Nat.reduceLeDiff, reduceCtorEq,  hf]
  intro hz0
  have hp := hz (by omega)
  refine callP (toProgram_c f hf p hp) (by simp -dsimp only [go_sem, ↓reduceIte, Nat.reduceEqDiff, Nat.reduceAdd, Nat.reduceSub, Nat.reduceMul, Nat.reduceLT, Nat.reduceLeDiff, reduceCtorEq,  hf, pC]) ?_
  simp -dsimp only [go_sem, ↓reduceIte, Nat.reduceEqDiff, Nat.reduceAdd, Nat.reduceSub, Nat.reduceMul, Nat.reduceLT, Nat.reduceLeDiff, reduceCtorEq,  hf]
  refine callP (spec_ProgramOk_c .s (by simp) p hp) (by simp -dsimp only [go_sem, ↓reduceIte, Nat.reduceEqDiff, Nat.reduceAdd, Nat.reduceSub, Nat.reduceMul, Nat.reduceLT, Nat.reduceLeDiff, reduceCtorEq,  hf, pV, pC]) ?_
  simp -dsimp only [go_sem, ↓reduceIte, Nat.reduceEqDiff, Nat.reduceAdd, Nat.reduceSub, Nat.reduceMul, Nat.reduceLT, Nat.reduceLeDiff, reduceCtorEq,  hf]
  refine callP (toProgram_c f hf p hp) (by simp -dsimp only [go_sem, ↓reduceIte, Nat.reduceEqDiff, Nat.reduceAdd, Nat.reduceSub, Nat.reduceMul, Nat.reduceLT, Nat.reduceLeDiff, reduceCtorEq,  hf, pC]) ?_
  simp -dsimp only [go_sem, ↓reduceIte, Nat.reduceEqDiff, Nat.reduceAdd, Nat.reduceSub, Nat.reduceMul, Nat.reduceLT, Nat.reduceLeDiff, reduceCtorEq,  hf, pV, pC]
  refine callP (impl_ProgramOk_c .s (by simp) p hp) (by simp -dsimp only [go_sem, ↓reduceIte, Nat.reduceEqDiff, Nat.reduceAdd, Nat.reduceSub, Nat.reduceMul, Nat.reduceLT, Nat.reduceLeDiff, reduceCtorEq,  hf, pV, pC]) ?_
  simp -dsimp only [go_sem, ↓reduceIte, Nat.reduceEqDiff, Nat.reduceAdd, Nat.reduceSub, Nat.reduceMul, Nat.reduceLT, Nat.reduceLeDiff, reduceCtorEq,  hf]
  refine ⟨fun h => by simp at h, fun _ => ?_⟩
  refine callP (toProgram_c f hf p hp) (by simp -dsimp only [go_sem, ↓reduceIte, Nat.reduceEqDiff, Nat.reduceAdd, Nat.reduceSub, Nat.reduceMul, Nat.reduceLT, Nat.reduceLeDiff, reduceCtorEq,  hf, pC]) ?_
  simp -dsimp only [go_sem, ↓reduceIte, Nat.reduceEqDiff, Nat.reduceAdd, Nat.reduceSub, Nat.reduceMul, Nat.reduceLT, Nat.reduceLeDiff, reduceCtorEq,  hf, pV, pC]
  refine callP (eqProgram_c .s .s (by simp) (by simp) p hp) (by simp -dsimp only [go_sem, ↓reduceIte, Nat.reduceEqDiff, Nat.reduceAdd, Nat.reduceSub, Nat.reduceMul, Nat.reduceLT, Nat.reduceLeDiff, reduceCtorEq,  hf, pV, pC]) ?_
  simp -dsimp only [go_sem, ↓reduceIte, Nat.reduceEqDiff, Nat.reduceAdd, Nat.reduceSub, Nat.reduceMul, Nat.reduceLT, Nat.reduceLeDiff, reduceCtorEq,  hf]
end Go.Proofs.Ytekhgkpnhenecaa
