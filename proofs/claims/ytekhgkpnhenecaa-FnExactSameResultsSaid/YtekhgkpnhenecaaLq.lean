/- Equality of fractions' data, of rows of them, of matrices and results. -/
import Derived.Test.YtekhgkpnhenecaaLr
namespace Go.Proofs.Ytekhgkpnhenecaa
open Go Go.RowKit
set_option maxRecDepth 100000
set_option linter.unusedVariables false
set_option linter.unusedSimpArgs false

theorem eqI_step {l m : List Int} {k : Nat} (hl : k < l.length) (hlm : l.length = m.length) (hp : l.take k = m.take k) (h : l.getD k 0 = m.getD k 0) : l.take (k + 1) = m.take (k + 1) := take_eq_succ hl (by omega) hp h

/-- rows of ints, compared in a loop over a row's range -/
theorem l04List_c (f g : Fl) (hf : f ≠ .u) (hg : g ≠ .u) (l m : List Int) (hl : l.length ≤ 9223372036854775807) (hm : m.length ≤ 9223372036854775807) : PC PP F_spec_l04List [sI f l, sI g m] (Bo (decide (l = m))) [] := by
  refine tx W_spec_l04List ke_spec_l04List [] (by kernel_rfl) ?_
  simp -dsimp only [go_sem, ↓reduceIte, Nat.reduceEqDiff, Nat.reduceAdd, Nat.reduceSub, Nat.reduceMul, Nat.reduceLT, Nat.reduceLeDiff, reduceCtorEq,  hf]
  refine ⟨fun h => ?_, fun h => ?_⟩
  · have : l ≠ m := by rintro rfl; exact h rfl
    simp [this]
  have hlm : l.length = m.length := by omega
  refine loopI (fun k : Nat => k ≤ l.length ∧ l.take k = m.take k) (fun k => ⟨[(0, sI f l), (1, sI g m), (12, I l.length), (13, I k)], []⟩) (fun k => l.length - k) 0 ⟨by omega, rfl⟩ ?_ ?_
  · simp -dsimp only [go_sem, ↓reduceIte, Nat.reduceEqDiff, Nat.reduceAdd, Nat.reduceSub, Nat.reduceMul, Nat.reduceLT, Nat.reduceLeDiff, reduceCtorEq]; simp
  intro k ⟨hk, hp⟩
  simp -dsimp only [go_sem, ↓reduceIte, Nat.reduceEqDiff, Nat.reduceAdd, Nat.reduceSub, Nat.reduceMul, Nat.reduceLT, Nat.reduceLeDiff, reduceCtorEq,  hf]
  refine ⟨fun h => ⟨by omega, h, by omega, ?_⟩, fun h => ?_⟩
  · have hk' : k < l.length := by omega
    have hm' : k < m.length := by omega
    rw [iC_get hk']
    simp -dsimp only [go_sem, ↓reduceIte, Nat.reduceEqDiff, Nat.reduceAdd, Nat.reduceSub, Nat.reduceMul, Nat.reduceLT, Nat.reduceLeDiff, reduceCtorEq]
    refine ⟨by omega, by omega, by omega, ?_⟩
    rw [iC_get hm']
    simp -dsimp only [go_sem, ↓reduceIte, Nat.reduceEqDiff, Nat.reduceAdd, Nat.reduceSub, Nat.reduceMul, Nat.reduceLT, Nat.reduceLeDiff, reduceCtorEq]
    refine ⟨fun h => ?_, fun h => ⟨k + 1, ⟨by omega, ?_⟩, by omega, ?_⟩⟩
    · have : l ≠ m := by rintro rfl; exact h rfl
      simp [this]
    · exact take_eq_succ hk' hm' hp (by simpa using h)
    · rw [w64 (by omega)]; omega
  · have : k = l.length := by omega
    subst this
    rw [List.take_length, hlm, List.take_length] at hp
    simp [hp]
theorem sEqual_c (f g : Fl) (hf : f ≠ .u) (hg : g ≠ .u) (l m : List Int) (hl : l.length ≤ 9223372036854775807) (hm : m.length ≤ 9223372036854775807) : PC PP F_slices_Equal_int_int [sI f l, sI g m] (Bo (decide (l = m))) [] := by
  refine tx W_slices_Equal_int_int ke_slices_Equal_int_int [] (by kernel_rfl) ?_
  simp -dsimp only [go_sem, ↓reduceIte, Nat.reduceEqDiff, Nat.reduceAdd, Nat.reduceSub, Nat.reduceMul, Nat.reduceLT, Nat.reduceLeDiff, reduceCtorEq,  hf]
  refine ⟨fun h => ?_, fun h => ?_⟩
  · have : l ≠ m := by rintro rfl; exact h rfl
    simp [this]
  have hlm : l.length = m.length := by omega
  refine loopI (fun k : Nat => k ≤ l.length ∧ l.take k = m.take k) (fun k => ⟨[(0, sI f l), (1, sI g m), (12, I l.length), (13, I k)], []⟩) (fun k => l.length - k) 0 ⟨by omega, rfl⟩ ?_ ?_
  · simp -dsimp only [go_sem, ↓reduceIte, Nat.reduceEqDiff, Nat.reduceAdd, Nat.reduceSub, Nat.reduceMul, Nat.reduceLT, Nat.reduceLeDiff, reduceCtorEq]; simp
  intro k ⟨hk, hp⟩
  simp -dsimp only [go_sem, ↓reduceIte, Nat.reduceEqDiff, Nat.reduceAdd, Nat.reduceSub, Nat.reduceMul, Nat.reduceLT, Nat.reduceLeDiff, reduceCtorEq,  hf]
  refine ⟨fun h => ⟨by omega, h, by omega, ?_⟩, fun h => ?_⟩
  · have hk' : k < l.length := by omega
    have hm' : k < m.length := by omega
    rw [iC_get hk']
    simp -dsimp only [go_sem, ↓reduceIte, Nat.reduceEqDiff, Nat.reduceAdd, Nat.reduceSub, Nat.reduceMul, Nat.reduceLT, Nat.reduceLeDiff, reduceCtorEq]
    refine ⟨by omega, by omega, by omega, ?_⟩
    rw [iC_get hm']
    simp -dsimp only [go_sem, ↓reduceIte, Nat.reduceEqDiff, Nat.reduceAdd, Nat.reduceSub, Nat.reduceMul, Nat.reduceLT, Nat.reduceLeDiff, reduceCtorEq]
    refine ⟨fun h => ?_, fun h => ⟨k + 1, ⟨by omega, ?_⟩, by omega, ?_⟩⟩
    · have : l ≠ m := by rintro rfl; exact h rfl
      simp [this]
    · exact take_eq_succ hk' hm' hp (by simpa using h)
    · rw [w64 (by omega)]; omega
  · have : k = l.length := by omega
    subst this
    rw [List.take_length, hlm, List.take_length] at hp
    simp [hp]

theorem RD.eq_iff {r s : RD} : r = s ↔ r.neg = s.neg ∧ r.mag = s.mag ∧ r.den = s.den := by
  cases r; cases s; simp

theorem spec_RatEqual_c (f g : Fl) (hf : f ≠ .u) (hg : g ≠ .u) (r s : RD) (hr : r.fit) (hs : s.fit) : PC PP F_spec_RatEqual [rV f r, rV g s] (Bo (decide (r = s))) [] := by
  simp only [RD.eq_iff]
  obtain ⟨b, m, d⟩ := r
  obtain ⟨b', m', d'⟩ := s
  obtain ⟨h1, h2⟩ := hr
  obtain ⟨h3, h4⟩ := hs
  try simp only at *
  refine tx W_spec_RatEqual ke_spec_RatEqual [] (by kernel_rfl) ?_
  simp -dsimp only [go_sem, ↓reduceIte, Nat.reduceEqDiff, Nat.reduceAdd, Nat.reduceSub, Nat.reduceMul, Nat.reduceLT, Nat.reduceLeDiff, reduceCtorEq,  hf, hg]
  refine ⟨fun h => ?_, fun h => by simp at h; simp [h]⟩
  refine callP (l04List_c f g hf hg m m' h1 h3) (by simp -dsimp only [go_sem, ↓reduceIte, Nat.reduceEqDiff, Nat.reduceAdd, Nat.reduceSub, Nat.reduceMul, Nat.reduceLT, Nat.reduceLeDiff, reduceCtorEq,  hf, hg]) ?_
  simp -dsimp only [go_sem, ↓reduceIte, Nat.reduceEqDiff, Nat.reduceAdd, Nat.reduceSub, Nat.reduceMul, Nat.reduceLT, Nat.reduceLeDiff, reduceCtorEq,  hf, hg]
  refine ⟨fun h' => ?_, fun h' => by simp [h']⟩
  refine callP (l04List_c f g hf hg d d' h2 h4) (by simp -dsimp only [go_sem, ↓reduceIte, Nat.reduceEqDiff, Nat.reduceAdd, Nat.reduceSub, Nat.reduceMul, Nat.reduceLT, Nat.reduceLeDiff, reduceCtorEq,  hf, hg]) ?_
  simp -dsimp only [go_sem, ↓reduceIte, Nat.reduceEqDiff, Nat.reduceAdd, Nat.reduceSub, Nat.reduceMul, Nat.reduceLT, Nat.reduceLeDiff, reduceCtorEq,  hf, hg]
  simp at h; simp [h, h']
theorem impl_RatEqual_c (f g : Fl) (hf : f ≠ .u) (hg : g ≠ .u) (r s : RD) (hr : r.fit) (hs : s.fit) : PC PP F_impl_RatEqual [rV f r, rV g s] (Bo (decide (r = s))) [] := by
  simp only [RD.eq_iff]
  obtain ⟨b, m, d⟩ := r
  obtain ⟨b', m', d'⟩ := s
  obtain ⟨h1, h2⟩ := hr
  obtain ⟨h3, h4⟩ := hs
  try simp only at *
  refine tx W_impl_RatEqual ke_impl_RatEqual [] (by kernel_rfl) ?_
  simp -dsimp only [go_sem, ↓reduceIte, Nat.reduceEqDiff, Nat.reduceAdd, Nat.reduceSub, Nat.reduceMul, Nat.reduceLT, Nat.reduceLeDiff, reduceCtorEq,  hf, hg]
  refine ⟨fun h => ?_, fun h => by simp at h; simp [h]⟩
  refine callP (sEqual_c f g hf hg m m' h1 h3) (by simp -dsimp only [go_sem, ↓reduceIte, Nat.reduceEqDiff, Nat.reduceAdd, Nat.reduceSub, Nat.reduceMul, Nat.reduceLT, Nat.reduceLeDiff, reduceCtorEq,  hf, hg]) ?_
  simp -dsimp only [go_sem, ↓reduceIte, Nat.reduceEqDiff, Nat.reduceAdd, Nat.reduceSub, Nat.reduceMul, Nat.reduceLT, Nat.reduceLeDiff, reduceCtorEq,  hf, hg]
  refine ⟨fun h' => ?_, fun h' => by simp [h']⟩
  refine callP (sEqual_c f g hf hg d d' h2 h4) (by simp -dsimp only [go_sem, ↓reduceIte, Nat.reduceEqDiff, Nat.reduceAdd, Nat.reduceSub, Nat.reduceMul, Nat.reduceLT, Nat.reduceLeDiff, reduceCtorEq,  hf, hg]) ?_
  simp -dsimp only [go_sem, ↓reduceIte, Nat.reduceEqDiff, Nat.reduceAdd, Nat.reduceSub, Nat.reduceMul, Nat.reduceLT, Nat.reduceLeDiff, reduceCtorEq,  hf, hg]
  simp at h; simp [h, h']
theorem eqBigInt_c (f g : Fl) (hf : f ≠ .u) (hg : g ≠ .u) (b b' : Bool) (m m' : List Int) (h1 : m.length ≤ 1048576) : PC PP F_laws_eqBigInt [.agg (bC f b m), .agg (bC g b' m')] (Bo (decide (b = b' ∧ m = m'))) [] := by
  refine tx W_laws_eqBigInt ke_laws_eqBigInt [] (by kernel_rfl) ?_
  simp -dsimp only [go_sem, ↓reduceIte, Nat.reduceEqDiff, Nat.reduceAdd, Nat.reduceSub, Nat.reduceMul, Nat.reduceLT, Nat.reduceLeDiff, reduceCtorEq,  hf, hg]
  refine ⟨fun h => by simp at h; simp [h], fun h => ?_⟩
  refine callP (eqIntS_c f g hf hg m m' h1) (by simp -dsimp only [go_sem, ↓reduceIte, Nat.reduceEqDiff, Nat.reduceAdd, Nat.reduceSub, Nat.reduceMul, Nat.reduceLT, Nat.reduceLeDiff, reduceCtorEq,  hf, hg]) ?_
  simp -dsimp only [go_sem, ↓reduceIte, Nat.reduceEqDiff, Nat.reduceAdd, Nat.reduceSub, Nat.reduceMul, Nat.reduceLT, Nat.reduceLeDiff, reduceCtorEq,  hf, hg]
  simp at h; simp [h]
theorem eqRat_c (f g : Fl) (hf : f ≠ .u) (hg : g ≠ .u) (r s : RD) (hr : r.small) : PC PP F_laws_eqRat [rV f r, rV g s] (Bo (decide (r = s))) [] := by
  simp only [RD.eq_iff]
  obtain ⟨b, m, d⟩ := r
  obtain ⟨b', m', d'⟩ := s
  obtain ⟨h1, h2⟩ := hr
  try simp only at *
  refine tx W_laws_eqRat ke_laws_eqRat [] (by kernel_rfl) ?_
  simp -dsimp only [go_sem, ↓reduceIte, Nat.reduceEqDiff, Nat.reduceAdd, Nat.reduceSub, Nat.reduceMul, Nat.reduceLT, Nat.reduceLeDiff, reduceCtorEq,  hf, hg]
  refine callP (eqBigInt_c f g hf hg b b' m m' h1) (by simp -dsimp only [go_sem, ↓reduceIte, Nat.reduceEqDiff, Nat.reduceAdd, Nat.reduceSub, Nat.reduceMul, Nat.reduceLT, Nat.reduceLeDiff, reduceCtorEq,  hf, hg]) ?_
  simp -dsimp only [go_sem, ↓reduceIte, Nat.reduceEqDiff, Nat.reduceAdd, Nat.reduceSub, Nat.reduceMul, Nat.reduceLT, Nat.reduceLeDiff, reduceCtorEq,  hf, hg]
  refine ⟨fun h => ?_, fun h => ?_⟩
  · simp at h ⊢; intro e1 e2; rcases h with h | h <;> contradiction
  refine callP (eqIntS_c f g hf hg d d' h2) (by simp -dsimp only [go_sem, ↓reduceIte, Nat.reduceEqDiff, Nat.reduceAdd, Nat.reduceSub, Nat.reduceMul, Nat.reduceLT, Nat.reduceLeDiff, reduceCtorEq,  hf, hg]) ?_
  simp -dsimp only [go_sem, ↓reduceIte, Nat.reduceEqDiff, Nat.reduceAdd, Nat.reduceSub, Nat.reduceMul, Nat.reduceLT, Nat.reduceLeDiff, reduceCtorEq,  hf, hg]
  have h : b = b' ∧ m = m' := by simpa using h
  simp [h.1, h.2]

theorem RD.getD {l : List RD} {i : Nat} (h : i < l.length) : l.getD i RD.zero = l[i] := by simp [h]
theorem takeR_succ {l m : List RD} {k : Nat} (hl : k < l.length) (hm : k < m.length) (h : l.take k = m.take k) (he : l[k] = m[k]) : l.take (k + 1) = m.take (k + 1) := by
  rw [List.take_succ_eq_append_getElem hl, List.take_succ_eq_append_getElem hm, h, he]

theorem eqRatS_c (f g : Fl) (hf : f ≠ .u) (hg : g ≠ .u) (l m : List RD) (hl : smallL l) : PC PP F_laws_eqRatS [sR f l, sR g m] (Bo (decide (l = m))) [] := by
  obtain ⟨h1, h2⟩ := hl
  refine tx W_laws_eqRatS ke_laws_eqRatS [] (by kernel_rfl) ?_
  simp -dsimp only [go_sem, ↓reduceIte, Nat.reduceEqDiff, Nat.reduceAdd, Nat.reduceSub, Nat.reduceMul, Nat.reduceLT, Nat.reduceLeDiff, reduceCtorEq,  hf, hg]
  refine ⟨fun h => ?_, fun h => ?_⟩
  · have : l ≠ m := by rintro rfl; exact h rfl
    simp [this]
  have hlm : l.length = m.length := by omega
  refine loopI (fun k : Nat => k ≤ l.length ∧ l.take k = m.take k) (fun k => ⟨[(0, sR f l), (1, sR g m), (5, I k)], []⟩) (fun k => l.length - k) 0 ⟨by omega, rfl⟩ ?_ ?_
  · simp -dsimp only [go_sem, ↓reduceIte, Nat.reduceEqDiff, Nat.reduceAdd, Nat.reduceSub, Nat.reduceMul, Nat.reduceLT, Nat.reduceLeDiff, reduceCtorEq]; simp
  intro k ⟨hk, hp⟩
  simp -dsimp only [go_sem, ↓reduceIte, Nat.reduceEqDiff, Nat.reduceAdd, Nat.reduceSub, Nat.reduceMul, Nat.reduceLT, Nat.reduceLeDiff, reduceCtorEq,  hf, hg]
  refine ⟨fun h => ⟨by omega, h, by omega, by omega, by omega, by omega, ?_⟩, fun h => ?_⟩
  · have hk' : k < l.length := by omega
    have hm' : k < m.length := by omega
    rw [rs_take hk', rs_take hm']
    refine callP (eqRat_c f g hf hg l[k] m[k] (h2 _ (List.getElem_mem hk'))) (by simp -dsimp only [go_sem, ↓reduceIte, Nat.reduceEqDiff, Nat.reduceAdd, Nat.reduceSub, Nat.reduceMul, Nat.reduceLT, Nat.reduceLeDiff, reduceCtorEq,  hf, hg]) ?_
    simp -dsimp only [go_sem, ↓reduceIte, Nat.reduceEqDiff, Nat.reduceAdd, Nat.reduceSub, Nat.reduceMul, Nat.reduceLT, Nat.reduceLeDiff, reduceCtorEq,  hf, hg]
    refine ⟨fun h => ?_, fun h => ⟨k + 1, ⟨by omega, takeR_succ hk' hm' hp (by simpa using h)⟩, by omega, by rw [w64 (by omega)]; omega⟩⟩
    have : l ≠ m := by rintro rfl; simp at h
    simp [this]
  · have : k = l.length := by omega
    subst this
    rw [List.take_length, hlm, List.take_length] at hp
    simp [hp]

theorem impl_EqualVectors_c (f g : Fl) (hf : f ≠ .u) (hg : g ≠ .u) (l m : List RD) (hl : fitL l) (hm : fitL m) : PC PP F_impl_EqualVectors [sR f l, sR g m] (Bo (decide (l = m))) [] := by
  obtain ⟨h1, h2⟩ := hl
  obtain ⟨h3, h4⟩ := hm
  refine tx W_impl_EqualVectors ke_impl_EqualVectors [] (by kernel_rfl) ?_
  simp -dsimp only [go_sem, ↓reduceIte, Nat.reduceEqDiff, Nat.reduceAdd, Nat.reduceSub, Nat.reduceMul, Nat.reduceLT, Nat.reduceLeDiff, reduceCtorEq,  hf, hg]
  refine ⟨fun h => ?_, fun h => ?_⟩
  · have : l ≠ m := by rintro rfl; exact h rfl
    simp [this]
  have hlm : l.length = m.length := by omega
  refine loopI (fun k : Nat => k ≤ l.length ∧ l.take k = m.take k) (fun k => ⟨[(0, sR f l), (1, sR g m), (12, I l.length), (13, I k)], []⟩) (fun k => l.length - k) 0 ⟨by omega, rfl⟩ ?_ ?_
  · simp -dsimp only [go_sem, ↓reduceIte, Nat.reduceEqDiff, Nat.reduceAdd, Nat.reduceSub, Nat.reduceMul, Nat.reduceLT, Nat.reduceLeDiff, reduceCtorEq]; simp
  intro k ⟨hk, hp⟩
  simp -dsimp only [go_sem, ↓reduceIte, Nat.reduceEqDiff, Nat.reduceAdd, Nat.reduceSub, Nat.reduceMul, Nat.reduceLT, Nat.reduceLeDiff, reduceCtorEq,  hf, hg]
  refine ⟨fun h => ⟨by omega, h, by omega, by omega, by omega, by omega, ?_⟩, fun h => ?_⟩
  · have hk' : k < l.length := by omega
    have hm' : k < m.length := by omega
    rw [rs_take hk', rs_take hm']
    refine callP (impl_RatEqual_c f g hf hg l[k] m[k] (h2 _ (List.getElem_mem hk')) (h4 _ (List.getElem_mem hm'))) (by simp -dsimp only [go_sem, ↓reduceIte, Nat.reduceEqDiff, Nat.reduceAdd, Nat.reduceSub, Nat.reduceMul, Nat.reduceLT, Nat.reduceLeDiff, reduceCtorEq,  hf, hg]) ?_
    simp -dsimp only [go_sem, ↓reduceIte, Nat.reduceEqDiff, Nat.reduceAdd, Nat.reduceSub, Nat.reduceMul, Nat.reduceLT, Nat.reduceLeDiff, reduceCtorEq,  hf, hg]
    refine ⟨fun h => ?_, fun h => ⟨k + 1, ⟨by omega, takeR_succ hk' hm' hp (by simpa using h)⟩, by omega, by rw [w64 (by omega)]; omega⟩⟩
    have : l ≠ m := by rintro rfl; simp at h
    simp [this]
  · have : k = l.length := by omega
    subst this
    rw [List.take_length, hlm, List.take_length] at hp
    simp [hp]

theorem spec_EqualVectors_c (f g : Fl) (hf : f ≠ .u) (hg : g ≠ .u) (l m : List RD) (hl : fitL l) (hm : fitL m) : PC PP F_spec_EqualVectors [sR f l, sR g m] (Bo (decide (l = m))) [] := by
  obtain ⟨h1, h2⟩ := hl
  obtain ⟨h3, h4⟩ := hm
  refine tx W_spec_EqualVectors ke_spec_EqualVectors [] (by kernel_rfl) ?_
  simp -dsimp only [go_sem, ↓reduceIte, Nat.reduceEqDiff, Nat.reduceAdd, Nat.reduceSub, Nat.reduceMul, Nat.reduceLT, Nat.reduceLeDiff, reduceCtorEq,  hf, hg]
  refine ⟨fun h => ?_, fun h => ?_⟩
  · have : l ≠ m := by rintro rfl; exact h rfl
    simp [this]
  have hlm : l.length = m.length := by omega
  refine loopI (fun k : Nat => k ≤ l.length ∧ l.take k = m.take k) (fun k => ⟨[(0, sR f l), (1, sR g m), (12, sR f l), (13, I l.length), (14, I k)], []⟩) (fun k => l.length - k) 0 ⟨by omega, rfl⟩ ?_ ?_
  · simp -dsimp only [go_sem, ↓reduceIte, Nat.reduceEqDiff, Nat.reduceAdd, Nat.reduceSub, Nat.reduceMul, Nat.reduceLT, Nat.reduceLeDiff, reduceCtorEq]; simp
  intro k ⟨hk, hp⟩
  simp -dsimp only [go_sem, ↓reduceIte, Nat.reduceEqDiff, Nat.reduceAdd, Nat.reduceSub, Nat.reduceMul, Nat.reduceLT, Nat.reduceLeDiff, reduceCtorEq,  hf, hg]
  refine ⟨fun h => ⟨by omega, h, by omega, ?_⟩, fun h => ?_⟩
  · have hk' : k < l.length := by omega
    have hm' : k < m.length := by omega
    rw [rs_take hk']
    rw [rs_take hm']
    have hn : ∀ x : V, x ∈ rdC f l[k] → x.nu := fun x hx => nu_rsC hf x (by unfold rsC; exact List.mem_flatMap.2 ⟨_, List.getElem_mem hk', hx⟩)
    refine ⟨by omega, by simp -dsimp only [go_sem, ↓reduceIte, Nat.reduceEqDiff, Nat.reduceAdd, Nat.reduceSub, Nat.reduceMul, Nat.reduceLT, Nat.reduceLeDiff, reduceCtorEq], fun c hc => hn c (List.mem_of_mem_take hc), by omega, by omega, by omega, by omega, ?_⟩
    rw [show (rdC f l[k]).take 3 = rdC f l[k] from rfl]
    refine callP (spec_RatEqual_c f g hf hg l[k] m[k] (h2 _ (List.getElem_mem hk')) (h4 _ (List.getElem_mem hm'))) (by simp -dsimp only [go_sem, ↓reduceIte, Nat.reduceEqDiff, Nat.reduceAdd, Nat.reduceSub, Nat.reduceMul, Nat.reduceLT, Nat.reduceLeDiff, reduceCtorEq,  hf, hg]) ?_
    simp -dsimp only [go_sem, ↓reduceIte, Nat.reduceEqDiff, Nat.reduceAdd, Nat.reduceSub, Nat.reduceMul, Nat.reduceLT, Nat.reduceLeDiff, reduceCtorEq,  hf, hg]
    refine ⟨fun h => ?_, fun h => ⟨k + 1, ⟨by omega, takeR_succ hk' hm' hp (by simpa using h)⟩, by omega, by rw [w64 (by omega)]; omega⟩⟩
    have : l ≠ m := by rintro rfl; simp at h
    simp [this]
  · have : k = l.length := by omega
    subst this
    rw [List.take_length, hlm, List.take_length] at hp
    simp [hp]

/-- a result's data -/
structure QD where
  code : Int
  x : List RD
  value : RD
deriving DecidableEq
def reC (f : Fl) (q : QD) : List V := [I q.code, sR f q.x, Bo q.value.neg, sI f q.value.mag, sI f q.value.den]
abbrev reV (f : Fl) (q : QD) : V := .agg (reC f q)
def QD.sz (q : QD) : Nat := szL q.x + q.value.sz
def QD.fit (q : QD) : Prop := fitL q.x ∧ q.value.fit
def QD.small (q : QD) : Prop := smallL q.x ∧ q.value.small
theorem RD.small_of {r : RD} (h : r.sz ≤ 1048576) : r.small := by unfold RD.sz at h; exact ⟨by omega, by omega⟩
theorem RD.small.fit {r : RD} (h : r.small) : r.fit := ⟨by have := h.1; omega, by have := h.2; omega⟩
theorem smallL_of {l : List RD} (h : szL l ≤ 1048576) : smallL l := by
  unfold szL at h
  exact ⟨by omega, fun r hr => RD.small_of (by have := sz_le hr; omega)⟩
theorem smallL.fit {l : List RD} (h : smallL l) : fitL l := ⟨by have := h.1; omega, fun r hr => (h.2 r hr).fit⟩
theorem QD.small_of {q : QD} (h : q.sz ≤ 1048576) : q.small := by unfold QD.sz at h; exact ⟨smallL_of (by omega), RD.small_of (by omega)⟩
theorem QD.eq_iff {r s : QD} : r = s ↔ r.code = s.code ∧ r.x = s.x ∧ r.value = s.value := by
  cases r; cases s; simp

theorem szResult_c (f : Fl) (hf : f ≠ .u) (q : QD) (n : Int) (hl : q.fit) (hn : -1 ≤ n ∧ n ≤ 1048576) : PC PP F_laws_szResult [reV f q, I n] (I (szI n q.sz)) [] := by
  obtain ⟨c, x, v⟩ := q
  obtain ⟨h1, h2⟩ := hl
  unfold QD.sz
  try simp only at *
  have hr := szI_rng (n := n) (k := szL x) hn.2
  refine tx W_laws_szResult ke_laws_szResult [] (by kernel_rfl) ?_
  simp only [reV, reC]
  simp -dsimp only [go_sem, ↓reduceIte, Nat.reduceEqDiff, Nat.reduceAdd, Nat.reduceSub, Nat.reduceMul, Nat.reduceLT, Nat.reduceLeDiff, reduceCtorEq,  hf]
  refine callP (szRatS_c f hf x n h1 hn) (by simp -dsimp only [go_sem, ↓reduceIte, Nat.reduceEqDiff, Nat.reduceAdd, Nat.reduceSub, Nat.reduceMul, Nat.reduceLT, Nat.reduceLeDiff, reduceCtorEq,  hf]) ?_
  simp -dsimp only [go_sem, ↓reduceIte, Nat.reduceEqDiff, Nat.reduceAdd, Nat.reduceSub, Nat.reduceMul, Nat.reduceLT, Nat.reduceLeDiff, reduceCtorEq,  hf]
  refine ⟨fun h => (szI_neg h).symm, fun h => ?_⟩
  refine callP (szRat_c f hf v (szI n (szL x)) h2 hr) (by simp -dsimp only [go_sem, ↓reduceIte, Nat.reduceEqDiff, Nat.reduceAdd, Nat.reduceSub, Nat.reduceMul, Nat.reduceLT, Nat.reduceLeDiff, reduceCtorEq,  hf]) ?_
  simp -dsimp only [go_sem, ↓reduceIte, Nat.reduceEqDiff, Nat.reduceAdd, Nat.reduceSub, Nat.reduceMul, Nat.reduceLT, Nat.reduceLeDiff, reduceCtorEq,  hf]
  rw [szI_szI h]
  exact ⟨fun h => (szI_neg' h).symm, fun _ => rfl⟩
theorem toResult_c (f : Fl) (hf : f ≠ .u) (q : QD) (hl : q.small) : PC PP F_laws_toResult [reV f q] (reV .s q) [] := by
  obtain ⟨c, x, v⟩ := q
  obtain ⟨h1, h2⟩ := hl
  try simp only at *
  refine tx W_laws_toResult ke_laws_toResult [] (by kernel_rfl) ?_
  simp only [reV, reC]
  simp -dsimp only [go_sem, ↓reduceIte, Nat.reduceEqDiff, Nat.reduceAdd, Nat.reduceSub, Nat.reduceMul, Nat.reduceLT, Nat.reduceLeDiff, reduceCtorEq,  hf]
  refine callP (toRatS_c f hf x h1) (by simp -dsimp only [go_sem, ↓reduceIte, Nat.reduceEqDiff, Nat.reduceAdd, Nat.reduceSub, Nat.reduceMul, Nat.reduceLT, Nat.reduceLeDiff, reduceCtorEq,  hf]) ?_
  simp -dsimp only [go_sem, ↓reduceIte, Nat.reduceEqDiff, Nat.reduceAdd, Nat.reduceSub, Nat.reduceMul, Nat.reduceLT, Nat.reduceLeDiff, reduceCtorEq,  hf]
  refine callP (toRat_c f hf v h2) (by simp -dsimp only [go_sem, ↓reduceIte, Nat.reduceEqDiff, Nat.reduceAdd, Nat.reduceSub, Nat.reduceMul, Nat.reduceLT, Nat.reduceLeDiff, reduceCtorEq,  hf]) ?_
  simp -dsimp only [go_sem, ↓reduceIte, Nat.reduceEqDiff, Nat.reduceAdd, Nat.reduceSub, Nat.reduceMul, Nat.reduceLT, Nat.reduceLeDiff, reduceCtorEq,  hf]
theorem eqResult_c (f g : Fl) (hf : f ≠ .u) (hg : g ≠ .u) (q r : QD) (hl : q.small) : PC PP F_laws_eqResult [reV f q, reV g r] (Bo (decide (q = r))) [] := by
  simp only [QD.eq_iff]
  obtain ⟨c, x, v⟩ := q
  obtain ⟨c', x', v'⟩ := r
  obtain ⟨h1, h2⟩ := hl
  try simp only at *
  refine tx W_laws_eqResult ke_laws_eqResult [] (by kernel_rfl) ?_
  simp only [reV, reC]
  simp -dsimp only [go_sem, ↓reduceIte, Nat.reduceEqDiff, Nat.reduceAdd, Nat.reduceSub, Nat.reduceMul, Nat.reduceLT, Nat.reduceLeDiff, reduceCtorEq,  hf, hg]
  refine ⟨fun h => by simp [h], fun h => ?_⟩
  refine callP (eqRatS_c f g hf hg x x' h1) (by simp -dsimp only [go_sem, ↓reduceIte, Nat.reduceEqDiff, Nat.reduceAdd, Nat.reduceSub, Nat.reduceMul, Nat.reduceLT, Nat.reduceLeDiff, reduceCtorEq,  hf, hg]) ?_
  simp -dsimp only [go_sem, ↓reduceIte, Nat.reduceEqDiff, Nat.reduceAdd, Nat.reduceSub, Nat.reduceMul, Nat.reduceLT, Nat.reduceLeDiff, reduceCtorEq,  hf, hg]
  refine ⟨fun h' => by simp at h'; simp [h'], fun h' => ?_⟩
  refine callP (eqRat_c f g hf hg v v' h2) (by simp -dsimp only [go_sem, ↓reduceIte, Nat.reduceEqDiff, Nat.reduceAdd, Nat.reduceSub, Nat.reduceMul, Nat.reduceLT, Nat.reduceLeDiff, reduceCtorEq,  hf, hg]) ?_
  simp -dsimp only [go_sem, ↓reduceIte, Nat.reduceEqDiff, Nat.reduceAdd, Nat.reduceSub, Nat.reduceMul, Nat.reduceLT, Nat.reduceLeDiff, reduceCtorEq,  hf, hg]
  have h : c = c' := by simpa using h
  have h' : x = x' := by simpa using h'
  simp [h, h']
theorem spec_SameResults_c (f g : Fl) (hf : f ≠ .u) (hg : g ≠ .u) (q r : QD) (hl : q.small) (hm : r.small) : PC PP F_spec_SameResults [reV f q, reV g r] (Bo (decide (q = r))) [] := by
  simp only [QD.eq_iff]
  obtain ⟨c, x, v⟩ := q
  obtain ⟨c', x', v'⟩ := r
  obtain ⟨h1, h2⟩ := hl
  obtain ⟨h3, h4⟩ := hm
  try simp only at *
  refine tx W_spec_SameResults ke_spec_SameResults [] (by kernel_rfl) ?_
  simp only [reV, reC]
  simp -dsimp only [go_sem, ↓reduceIte, Nat.reduceEqDiff, Nat.reduceAdd, Nat.reduceSub, Nat.reduceMul, Nat.reduceLT, Nat.reduceLeDiff, reduceCtorEq,  hf, hg]
  refine ⟨fun h => ?_, fun h => by simp [h]⟩
  refine callP (spec_EqualVectors_c f g hf hg x x' h1.fit h3.fit) (by simp -dsimp only [go_sem, ↓reduceIte, Nat.reduceEqDiff, Nat.reduceAdd, Nat.reduceSub, Nat.reduceMul, Nat.reduceLT, Nat.reduceLeDiff, reduceCtorEq,  hf, hg]) ?_
  simp -dsimp only [go_sem, ↓reduceIte, Nat.reduceEqDiff, Nat.reduceAdd, Nat.reduceSub, Nat.reduceMul, Nat.reduceLT, Nat.reduceLeDiff, reduceCtorEq,  hf, hg]
  refine ⟨fun h' => ?_, fun h' => by simp [h']⟩
  refine callP (spec_RatEqual_c f g hf hg v v' h2.fit h4.fit) (by simp -dsimp only [go_sem, ↓reduceIte, Nat.reduceEqDiff, Nat.reduceAdd, Nat.reduceSub, Nat.reduceMul, Nat.reduceLT, Nat.reduceLeDiff, reduceCtorEq,  hf, hg]) ?_
  simp -dsimp only [go_sem, ↓reduceIte, Nat.reduceEqDiff, Nat.reduceAdd, Nat.reduceSub, Nat.reduceMul, Nat.reduceLT, Nat.reduceLeDiff, reduceCtorEq,  hf, hg]
  simp [h, h']
theorem impl_SameResults_c (f g : Fl) (hf : f ≠ .u) (hg : g ≠ .u) (q r : QD) (hl : q.small) (hm : r.small) : PC PP F_impl_SameResults [reV f q, reV g r] (Bo (decide (q = r))) [] := by
  simp only [QD.eq_iff]
  obtain ⟨c, x, v⟩ := q
  obtain ⟨c', x', v'⟩ := r
  obtain ⟨h1, h2⟩ := hl
  obtain ⟨h3, h4⟩ := hm
  try simp only at *
  refine tx W_impl_SameResults ke_impl_SameResults [] (by kernel_rfl) ?_
  simp only [reV, reC]
  simp -dsimp only [go_sem, ↓reduceIte, Nat.reduceEqDiff, Nat.reduceAdd, Nat.reduceSub, Nat.reduceMul, Nat.reduceLT, Nat.reduceLeDiff, reduceCtorEq,  hf, hg]
  refine ⟨fun h => ?_, fun h => by simp [h]⟩
  refine callP (impl_EqualVectors_c f g hf hg x x' h1.fit h3.fit) (by simp -dsimp only [go_sem, ↓reduceIte, Nat.reduceEqDiff, Nat.reduceAdd, Nat.reduceSub, Nat.reduceMul, Nat.reduceLT, Nat.reduceLeDiff, reduceCtorEq,  hf, hg]) ?_
  simp -dsimp only [go_sem, ↓reduceIte, Nat.reduceEqDiff, Nat.reduceAdd, Nat.reduceSub, Nat.reduceMul, Nat.reduceLT, Nat.reduceLeDiff, reduceCtorEq,  hf, hg]
  refine ⟨fun h' => ?_, fun h' => by simp [h']⟩
  refine callP (impl_RatEqual_c f g hf hg v v' h2.fit h4.fit) (by simp -dsimp only [go_sem, ↓reduceIte, Nat.reduceEqDiff, Nat.reduceAdd, Nat.reduceSub, Nat.reduceMul, Nat.reduceLT, Nat.reduceLeDiff, reduceCtorEq,  hf, hg]) ?_
  simp -dsimp only [go_sem, ↓reduceIte, Nat.reduceEqDiff, Nat.reduceAdd, Nat.reduceSub, Nat.reduceMul, Nat.reduceLT, Nat.reduceLeDiff, reduceCtorEq,  hf, hg]
  simp [h, h']

theorem FnExactSameResults_c (f : Fl) (hf : f ≠ .u) (q r : QD) (hq : q.fit) (hr : r.fit) : PC PP F_laws_FnExactSameResults [reV f q, reV f r] (Bo true) [] := by
  refine tx W_laws_FnExactSameResults ke_laws_FnExactSameResults [] (by kernel_rfl) ?_
  have hz1 := szResult_c f hf q 1048576 hq (by omega)
  have hb1 := szI_rng (n := 1048576) (k := q.sz) (by omega)
  have hz2 := szResult_c f hf r (szI 1048576 q.sz) hr hb1
  have hs1 : 0 ≤ szI 1048576 q.sz → q.small := fun h => QD.small_of (szI_small (by omega) h)
  have hs2 : 0 ≤ szI (szI 1048576 q.sz) r.sz → r.small := fun h => QD.small_of (szI_small hb1.2 h)
  generalize szI 1048576 q.sz = z at *
  generalize szI z r.sz = y at *
  have ht1 := toResult_c f hf q
  have ht2 := toResult_c f hf r
  have hsp := spec_SameResults_c .s .s (by simp) (by simp) q r
  have him := impl_SameResults_c .s .s (by simp) (by simp) q r
  have he1 := eqResult_c .s .s (by simp) (by simp) q q
  have he2 := eqResult_c .s .s (by simp) (by simp) r r
  obtain ⟨c, x, v⟩ := q
  obtain ⟨c', x', v'⟩ := r
  simp only [reV, reC] at *
  simp -dsimp only [go_sem, ↓reduceIte, Nat.reduceEqDiff, Nat.reduceAdd, Nat.reduceSub, Nat.reduceMul, Nat.reduceLT, Nat.reduceLeDiff, reduceCtorEq,  hf]
  refine callP hz1 (by simp -dsimp only [go_sem, ↓reduceIte, Nat.reduceEqDiff, Nat.reduceAdd, Nat.reduceSub, Nat.reduceMul, Nat.reduceLT, Nat.reduceLeDiff, reduceCtorEq,  hf]) ?_
  simp -dsimp only [go_sem, ↓reduceIte, Nat.reduceEqDiff, Nat.reduceAdd, Nat.reduceSub, Nat.reduceMul, Nat.reduceLT, Nat.reduceLeDiff, reduceCtorEq,  hf]
  intro g1
  have hs1 := hs1 (by omega)
  refine callP hz2 (by simp -dsimp only [go_sem, ↓reduceIte, Nat.reduceEqDiff, Nat.reduceAdd, Nat.reduceSub, Nat.reduceMul, Nat.reduceLT, Nat.reduceLeDiff, reduceCtorEq,  hf]) ?_
  simp -dsimp only [go_sem, ↓reduceIte, Nat.reduceEqDiff, Nat.reduceAdd, Nat.reduceSub, Nat.reduceMul, Nat.reduceLT, Nat.reduceLeDiff, reduceCtorEq,  hf]
  intro g2
  have hs2 := hs2 (by omega)
  refine callP (ht1 hs1) (by simp -dsimp only [go_sem, ↓reduceIte, Nat.reduceEqDiff, Nat.reduceAdd, Nat.reduceSub, Nat.reduceMul, Nat.reduceLT, Nat.reduceLeDiff, reduceCtorEq,  hf]) ?_
  simp -dsimp only [go_sem, ↓reduceIte, Nat.reduceEqDiff, Nat.reduceAdd, Nat.reduceSub, Nat.reduceMul, Nat.reduceLT, Nat.reduceLeDiff, reduceCtorEq,  hf]
  refine callP (ht2 hs2) (by simp -dsimp only [go_sem, ↓reduceIte, Nat.reduceEqDiff, Nat.reduceAdd, Nat.reduceSub, Nat.reduceMul, Nat.reduceLT, Nat.reduceLeDiff, reduceCtorEq,  hf]) ?_
  simp -dsimp only [go_sem, ↓reduceIte, Nat.reduceEqDiff, Nat.reduceAdd, Nat.reduceSub, Nat.reduceMul, Nat.reduceLT, Nat.reduceLeDiff, reduceCtorEq,  hf]
  refine callP (hsp hs1 hs2) (by simp -dsimp only [go_sem, ↓reduceIte, Nat.reduceEqDiff, Nat.reduceAdd, Nat.reduceSub, Nat.reduceMul, Nat.reduceLT, Nat.reduceLeDiff, reduceCtorEq,  hf]) ?_
  simp -dsimp only [go_sem, ↓reduceIte, Nat.reduceEqDiff, Nat.reduceAdd, Nat.reduceSub, Nat.reduceMul, Nat.reduceLT, Nat.reduceLeDiff, reduceCtorEq,  hf]
  refine callP (ht1 hs1) (by simp -dsimp only [go_sem, ↓reduceIte, Nat.reduceEqDiff, Nat.reduceAdd, Nat.reduceSub, Nat.reduceMul, Nat.reduceLT, Nat.reduceLeDiff, reduceCtorEq,  hf]) ?_
  simp -dsimp only [go_sem, ↓reduceIte, Nat.reduceEqDiff, Nat.reduceAdd, Nat.reduceSub, Nat.reduceMul, Nat.reduceLT, Nat.reduceLeDiff, reduceCtorEq,  hf]
  refine callP (ht2 hs2) (by simp -dsimp only [go_sem, ↓reduceIte, Nat.reduceEqDiff, Nat.reduceAdd, Nat.reduceSub, Nat.reduceMul, Nat.reduceLT, Nat.reduceLeDiff, reduceCtorEq,  hf]) ?_
  simp -dsimp only [go_sem, ↓reduceIte, Nat.reduceEqDiff, Nat.reduceAdd, Nat.reduceSub, Nat.reduceMul, Nat.reduceLT, Nat.reduceLeDiff, reduceCtorEq,  hf]
  refine callP (him hs1 hs2) (by simp -dsimp only [go_sem, ↓reduceIte, Nat.reduceEqDiff, Nat.reduceAdd, Nat.reduceSub, Nat.reduceMul, Nat.reduceLT, Nat.reduceLeDiff, reduceCtorEq,  hf]) ?_
  simp -dsimp only [go_sem, ↓reduceIte, Nat.reduceEqDiff, Nat.reduceAdd, Nat.reduceSub, Nat.reduceMul, Nat.reduceLT, Nat.reduceLeDiff, reduceCtorEq,  hf]
  refine ⟨fun h => by simp at h, fun _ => ?_⟩
  refine callP (ht1 hs1) (by simp -dsimp only [go_sem, ↓reduceIte, Nat.reduceEqDiff, Nat.reduceAdd, Nat.reduceSub, Nat.reduceMul, Nat.reduceLT, Nat.reduceLeDiff, reduceCtorEq,  hf]) ?_
  simp -dsimp only [go_sem, ↓reduceIte, Nat.reduceEqDiff, Nat.reduceAdd, Nat.reduceSub, Nat.reduceMul, Nat.reduceLT, Nat.reduceLeDiff, reduceCtorEq,  hf]
  refine callP (he1 hs1) (by simp -dsimp only [go_sem, ↓reduceIte, Nat.reduceEqDiff, Nat.reduceAdd, Nat.reduceSub, Nat.reduceMul, Nat.reduceLT, Nat.reduceLeDiff, reduceCtorEq,  hf]) ?_
  simp -dsimp only [go_sem, ↓reduceIte, Nat.reduceEqDiff, Nat.reduceAdd, Nat.reduceSub, Nat.reduceMul, Nat.reduceLT, Nat.reduceLeDiff, reduceCtorEq,  hf]
  refine callP (ht2 hs2) (by simp -dsimp only [go_sem, ↓reduceIte, Nat.reduceEqDiff, Nat.reduceAdd, Nat.reduceSub, Nat.reduceMul, Nat.reduceLT, Nat.reduceLeDiff, reduceCtorEq,  hf]) ?_
  simp -dsimp only [go_sem, ↓reduceIte, Nat.reduceEqDiff, Nat.reduceAdd, Nat.reduceSub, Nat.reduceMul, Nat.reduceLT, Nat.reduceLeDiff, reduceCtorEq,  hf]
  refine callP (he2 hs2) (by simp -dsimp only [go_sem, ↓reduceIte, Nat.reduceEqDiff, Nat.reduceAdd, Nat.reduceSub, Nat.reduceMul, Nat.reduceLT, Nat.reduceLeDiff, reduceCtorEq,  hf]) ?_
  simp -dsimp only [go_sem, ↓reduceIte, Nat.reduceEqDiff, Nat.reduceAdd, Nat.reduceSub, Nat.reduceMul, Nat.reduceLT, Nat.reduceLeDiff, reduceCtorEq,  hf]
end Go.Proofs.Ytekhgkpnhenecaa
