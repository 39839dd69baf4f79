/- part of the proof -/
import Derived.Test.YtpmjjdhnacmphaaTHa
namespace Go.Proofs.Ytpmjjdhnacmphaa
open Go Go.RowKit
set_option maxRecDepth 100000
set_option linter.unusedVariables false
set_option linter.unusedSimpArgs false
theorem Mem.cut {w : World} {S B : BS} {κ : KM} : ∀ {cs : List V} {b o k : Nat} {us : List Nat}, (∀ c ∈ cs, ∃ v, c = .lit v) → Mem w S B κ cs b o us → us = [] ∧ Mem w S B κ (cs.take k) b o []
  | [], b, o, k, us, _, h => by
    have h : us = [] := h
    subst h
    rw [List.take_nil]; exact ⟨rfl, rfl⟩
  | c :: cs, b, o, k, us, hl, ⟨x, u1, u2, h1, h2, h3, h4⟩ => by
    obtain ⟨v, rfl⟩ := hl c (by simp)
    have h31 : u1 = [] := h3.1
    subst h31
    cases k with
    | zero =>
      obtain ⟨e, _⟩ := Mem.cut (k := 0) (fun c hc => hl c (by simp [hc])) h4
      exact ⟨by rw [h2, e]; rfl, rfl⟩
    | succ k =>
      obtain ⟨e, m⟩ := Mem.cut (k := k) (fun c hc => hl c (by simp [hc])) h4
      exact ⟨by rw [h2, e]; rfl, x, [], [], h1, rfl, h3, m⟩
end Go.Proofs.Ytpmjjdhnacmphaa
namespace Go.Proofs.Ytpmjjdhnacmphaa
set_option linter.unusedVariables false
set_option linter.unusedSimpArgs false
theorem getD_set {l : List Int} {i k : Nat} {v : Int} (hi : i < l.length) : (l.set i v).getD k 0 = if k = i then v else l.getD k 0 := by
  by_cases h : k = i
  · subst h; rw [if_pos rfl]; simp [List.getD_eq_getElem?_getD, hi]
  · rw [if_neg h, getD_set_ne' (fun e => h e.symm)]
end Go.Proofs.Ytpmjjdhnacmphaa
namespace Go.Proofs.Ytpmjjdhnacmphaa
open Go Go.RowKit
set_option maxRecDepth 100000
set_option linter.unusedVariables false
set_option linter.unusedSimpArgs false
end Go.Proofs.Ytpmjjdhnacmphaa
namespace Go.Proofs.Ytpmjjdhnacmphaa
set_option linter.unusedVariables false
set_option linter.unusedSimpArgs false
end Go.Proofs.Ytpmjjdhnacmphaa
namespace Go.Proofs.Ytpmjjdhnacmphaa
open Go Go.RowKit
set_option maxRecDepth 100000
set_option linter.unusedVariables false
set_option linter.unusedSimpArgs false
theorem PC.nil {f : FuncId} {r : V} {fl : Fl} (hf : fl ≠ .u) (h : ∀ (a : Option Addr) (c : Nat), c ≤ maxLen → PC PP f [.lit (.slice a 0 c)] r []) : PC PP f [.sl fl 1 0 []] r [] := by
  refine ⟨(h none 0 (by decide)).1, fun w S B xs hb hr => ?_⟩
  obtain ⟨x, xs', u1, u2, rfl, e2, e3, e4, e5⟩ := hr
  subst e4
  obtain ⟨a, c, rfl, _, hc, _⟩ := e3
  exact (h a c hc).2 w S B _ hb ⟨_, _, [], [], rfl, rfl, ⟨rfl, rfl, rfl⟩, rfl, rfl⟩
end Go.Proofs.Ytpmjjdhnacmphaa
