/- part of the proof -/
import Derived.Test.YtpmjjdhnacmphaaTGa
namespace Go.Proofs.Ytpmjjdhnacmphaa
set_option linter.unusedVariables false
set_option linter.unusedSimpArgs false
def vl : List Int → Int
  | [] => 0
  | x :: l => x + (1000000000 : Int) * vl l
def dg (l : List Int) : Prop := ∀ x ∈ l, 0 ≤ x ∧ x < (1000000000 : Int)
def lim (n : Nat) : List Int := if h : n = 0 then [] else ((n % 1000000000 : Nat) : Int) :: lim (n / 1000000000)
termination_by n
decreasing_by omega
theorem dg.take {l : List Int} (h : dg l) (i : Nat) : dg (l.take i) := fun x hx => h x (List.mem_of_mem_take hx)
theorem dg.drop {l : List Int} (h : dg l) (i : Nat) : dg (l.drop i) := fun x hx => h x (List.mem_of_mem_drop hx)
theorem dg.get {l : List Int} (h : dg l) {i : Nat} (hi : i < l.length) : 0 ≤ l[i] ∧ l[i] < (1000000000 : Int) := h _ (List.getElem_mem hi)
theorem dg.getD {l : List Int} (h : dg l) (i : Nat) : 0 ≤ l.getD i 0 ∧ l.getD i 0 < (1000000000 : Int) := by
  by_cases hi : i < l.length
  · have := h.get hi; simpa [hi] using this
  · rw [List.getD_eq_getElem?_getD, List.getElem?_eq_none (by omega)]; decide
theorem getD_set_ne' {l : List Int} {i k : Nat} {v : Int} (h : i ≠ k) : (l.set i v).getD k 0 = l.getD k 0 := by
  simp [List.getD_eq_getElem?_getD, List.getElem?_set, h]
end Go.Proofs.Ytpmjjdhnacmphaa
namespace Go.Proofs.Ytpmjjdhnacmphaa
open Go Go.RowKit
set_option maxRecDepth 100000
set_option linter.unusedVariables false
set_option linter.unusedSimpArgs false
def frzAt (o : Option Ob) (cs : List V) : Prop := ∃ ty, o = some ⟨.frz, ty, cs⟩
@[go_sem] theorem frzAt_some {ty : TypeId} {cs cs' : List V} : frzAt (some ⟨.frz, ty, cs⟩) cs' = (cs = cs') := by
  unfold frzAt
  apply propext; constructor
  · rintro ⟨t, h⟩; simp only [Option.some.injEq, Ob.mk.injEq, true_and] at h; exact h.2
  · rintro rfl; exact ⟨_, rfl⟩
@[congr] theorem frzAt_congr {o o' : Option Ob} {cs : List V} (h : o = o') : frzAt o cs = frzAt o' cs := by rw [h]
theorem Le.frzI {H : List Ob} {f : Fl} {id n : Nat} {ty : TypeId} {l : List Int} (h : H[id]? = some ⟨.frz, ty, iC l⟩) (hn : n = l.length) : Le H f (.rsl id 1 0 n) (sI .s l) := by
  subst hn
  have := Le.rslz (H := H) (f := f) id 1 0 l.length ⟨.frz, ty, iC l⟩ h rfl (by simp [iC_length]) (by
    simp only [Nat.zero_mul, List.drop_zero, Nat.mul_one]
    rw [List.take_of_length_le (by simp [iC_length])]
    intro c hc
    unfold iC at hc
    obtain ⟨n, _, rfl⟩ := List.mem_map.1 hc
    trivial)
  simp only [Nat.zero_mul, List.drop_zero, Nat.mul_one] at this
  rwa [List.take_of_length_le (by simp [iC_length])] at this
@[go_sem] theorem le_frzI {H : List Ob} {f : Fl} {id n n' : Nat} {l : List Int} (h : frzAt H[id]? (iC l)) (hn : n = l.length) (hn' : n' = l.length) : Le H f (.rsl id 1 0 n) (.sl .s 1 n' (iC l)) = True := by
  obtain ⟨ty, h⟩ := h
  subst hn'
  apply propext; exact ⟨fun _ => trivial, fun _ => Le.frzI h hn⟩
theorem cl_iC {l : List Int} : ∀ c ∈ iC l, c.cl := by
  intro c hc
  unfold iC at hc
  obtain ⟨n, _, rfl⟩ := List.mem_map.1 hc
  trivial
end Go.Proofs.Ytpmjjdhnacmphaa
namespace Go.Proofs.Ytpmjjdhnacmphaa
open Go Go.RowKit
set_option maxRecDepth 100000
set_option linter.unusedVariables false
set_option linter.unusedSimpArgs false
end Go.Proofs.Ytpmjjdhnacmphaa
namespace Go.Proofs.Ytpmjjdhnacmphaa
open Go Go.RowKit
set_option maxRecDepth 100000
set_option linter.unusedVariables false
set_option linter.unusedSimpArgs false
end Go.Proofs.Ytpmjjdhnacmphaa
namespace Go.Proofs.Ytpmjjdhnacmphaa
open Go Go.RowKit
set_option maxRecDepth 100000
set_option linter.unusedVariables false
set_option linter.unusedSimpArgs false
end Go.Proofs.Ytpmjjdhnacmphaa
namespace Go.Proofs.Ytpmjjdhnacmphaa
open Go Go.RowKit
set_option maxRecDepth 100000
set_option linter.unusedVariables false
set_option linter.unusedSimpArgs false
def okN (l : List Int) : Bool := decide (l.length ≤ 60) && (inB 0 999999999 l && !decide (l.length > 0 ∧ l.getD (l.length - 1) 0 = 0))
end Go.Proofs.Ytpmjjdhnacmphaa
namespace Go.Proofs.Ytpmjjdhnacmphaa
open Go Go.RowKit
set_option maxRecDepth 100000
set_option linter.unusedVariables false
set_option linter.unusedSimpArgs false
end Go.Proofs.Ytpmjjdhnacmphaa
