/- part of the proof -/
import Derived.Test.YtpmjjdhnacmphaaTIa
namespace Go.Proofs.Ytpmjjdhnacmphaa
open Go Go.RowKit
set_option maxRecDepth 100000
set_option maxHeartbeats 1600000
set_option linter.unusedVariables false
set_option linter.unusedSimpArgs false
theorem PB.conv {P : Program} {f : FuncId} {args : List V} {r r' : V} {H1 H1' : List Ob} (h : PB P f args r H1) (k : RtB H1 r r' H1') : PB P f args r' H1' := by
  refine ⟨h.1, fun w S B xs hbnd hrep => ?_⟩
  refine (h.2 w S B xs hbnd hrep).mono ?_
  rintro e w' ⟨x, rfl, hb, κ', S', uss', h1, h2, h3, h4, h5, h6, h7, h8, h9⟩
  let E : Env := ⟨w, [], S, B, 0, []⟩
  have how : ∀ b ∈ uss'.flatten, ¬ S' b ∧ ¬ B b ∧ b < w'.heap.size ∧ (w.heap.size ≤ b ∨ b ∈ ([] : List Nat)) := by
    intro b hb'
    obtain ⟨q1, q2, q3⟩ := h9 b hb'
    exact ⟨q3, fun hB => by have := hbnd b (.inr hB); omega, q2, .inl q1⟩
  have hsb : ∀ b, S' b → b < w'.heap.size := by
    intro b hs
    rcases h2 b hs with q | q
    · exact Nat.lt_of_lt_of_le (hbnd b (.inl q)) hb.size
    · exact q.2
  have hpE : Hp E H1 w' κ' S' uss' := { kl := h4, al := h5, ul := h6, ob := h7, nd := h8, ow := how, sb := hsb, s0 := h1, s1 := fun b hs => (h2 b hs).imp (fun q => q) (fun q => .inl q.1), bb := fun b q => hbnd b (.inr q), kp := Keeps.of_below _ hb, kk := fun _ _ q => by simp [E] at q }
  obtain ⟨κ2, S2, uss2, hp, hr⟩ := k E w' κ' S' uss' x (Nat.le_refl _) hpE h3
  have hnew : ∀ b, S2 b → S b ∨ (w.heap.size ≤ b ∧ b < w'.heap.size) := by
    intro b hs
    rcases hp.s1 b hs with q | q | q
    · exact .inl q
    · exact .inr ⟨q, hp.sb b hs⟩
    · simp [E] at q
  refine ⟨x, rfl, hb, κ2, S2, uss2, hp.s0, hnew, hr, hp.kl, hp.al, hp.ul, hp.ob, hp.nd, ?_⟩
  intro b hb'
  obtain ⟨q1, q2, q3, q4⟩ := hp.ow b hb'
  rcases q4 with q4 | q4
  · exact ⟨q4, q3, q1⟩
  · simp [E] at q4
theorem GC.conv {P : Program} {f : FuncId} {args : List V} {r r' : V} {H1 H1' : List Ob} (h : GC P f args [] r H1) (k : RtG 0 H1 r r' H1') : GC P f args [] r' H1' := by
  refine ⟨h.1, fun w S B κ uss xs hp0 hrep => ?_⟩
  have hκ : κ = [] := List.eq_nil_of_length_eq_zero hp0.kl
  have hu : uss = [] := List.eq_nil_of_length_eq_zero hp0.ul
  subst hκ; subst hu
  refine (h.2 w S B [] [] xs hp0 hrep).mono ?_
  rintro e w' ⟨x, rfl, κ', S', uss', hp, hr⟩
  obtain ⟨κ2, S2, uss2, h1, h2⟩ := k ⟨w, [], S, fun _ => False, 0, []⟩ w' κ' S' uss' x (Nat.le_refl _) hp hr
  exact ⟨x, rfl, κ2, S2, uss2, h1, h2⟩
attribute [go_sem] List.length_map List.length_set
theorem smallL.getD {l : List RD} (h : smallL l) {i : Nat} (hi : i < l.length) : (l.getD i RD.zero).small := by
  rw [List.getD_eq_getElem?_getD, List.getElem?_eq_getElem hi, Option.getD_some]
  exact h.2 _ (List.getElem_mem hi)
end Go.Proofs.Ytpmjjdhnacmphaa
namespace Go.Proofs.Ytpmjjdhnacmphaa
open Go Go.RowKit
set_option maxRecDepth 100000
set_option maxHeartbeats 1600000
set_option linter.unusedVariables false
set_option linter.unusedSimpArgs false
end Go.Proofs.Ytpmjjdhnacmphaa
namespace Go.Proofs.Ytpmjjdhnacmphaa
open Go Go.RowKit
set_option maxRecDepth 100000
set_option maxHeartbeats 1600000
set_option linter.unusedVariables false
set_option linter.unusedSimpArgs false
structure MD where
  rows : Int
  cols : Int
  cells : List RD
deriving DecidableEq
end Go.Proofs.Ytpmjjdhnacmphaa
