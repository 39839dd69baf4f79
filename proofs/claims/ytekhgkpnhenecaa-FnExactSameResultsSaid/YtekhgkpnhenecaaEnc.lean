/- How Go's data are read as mathematical data; the weakenings of such readings. -/
import Derived.Test.YtekhgkpnhenecaaSim
import Derived.IntWalk
namespace Go.Proofs.Ytekhgkpnhenecaa
open Go Go.RowKit
set_option linter.unusedVariables false
set_option linter.unusedSimpArgs false

abbrev I (n : Int) : V := .lit (.int .i64 n)
abbrev Bo (b : Bool) : V := .lit (.bool b)
/-- cells of a row of ints -/
def iC (l : List Int) : List V := l.map fun n => I n
abbrev sI (f : Fl) (l : List Int) : V := .sl f 1 l.length (iC l)

theorem w64 {n : Int} (h : -9223372036854775808 ≤ n ∧ n ≤ 9223372036854775807) : IntKind.wrap .i64 n = n := Go.IntWalk.i64_in n h
theorem w8 {n : Int} (h : 0 ≤ n ∧ n ≤ 255) : IntKind.wrap .u8 n = n := Go.IntWalk.u8_in n h

@[go_sem] theorem iC_length {l : List Int} : (iC l).length = l.length := by simp [iC]
theorem iC_drop {l : List Int} {i : Nat} : (iC l).drop i = iC (l.drop i) := by simp [iC]
theorem iC_take {l : List Int} {i : Nat} : (iC l).take i = iC (l.take i) := by simp [iC]
theorem iC_append {l m : List Int} : iC l ++ iC m = iC (l ++ m) := by simp [iC]
theorem iC_one {n : Int} : [I n] = iC [n] := rfl
theorem iC_nil : [] = iC [] := rfl
theorem iC_get {l : List Int} {i : Nat} (h : i < l.length) : ((iC l).drop i)[0]? = some (I (l.getD i 0)) := by
  simp [iC, List.getElem?_drop, h]
theorem iC_set {l : List Int} {i : Nat} {v : Int} (h : i < l.length) : (iC l).take i ++ [I v] ++ (iC l).drop (i + 1) = iC (l.set i v) := by
  rw [iC_take, iC_drop, iC_one, iC_append, iC_append]
  congr 1
  rw [List.append_assoc, List.singleton_append, List.set_eq_take_append_cons_drop, if_pos h]
theorem iC_zero (n : Nat) : (List.replicate n [I 0]).flatten = iC (List.replicate n 0) := by
  induction n with
  | zero => rfl
  | succ n ih => rw [List.replicate_succ, List.flatten_cons, ih, List.replicate_succ]; rfl
@[go_sem] theorem iC_cell {l : List Int} : (∀ c ∈ iC l, c.cell) = True := by
  apply propext; simp [iC, V.cell]
theorem iC_nu {l : List Int} : ∀ c ∈ iC l, c.nu := by
  simp [iC, V.nu]
@[go_sem] theorem iC_nu_drop {l : List Int} {i n : Nat} : (∀ c ∈ ((iC l).drop i).take n, c.nu) = True := by
  apply propext; refine ⟨fun _ => trivial, fun _ => ?_⟩
  rw [iC_drop, iC_take]; exact iC_nu
@[go_sem] theorem iC_nu' {l : List Int} : (∀ c ∈ iC l, c.nu) = True := by
  apply propext; exact ⟨fun _ => trivial, fun _ => iC_nu⟩
@[go_sem] theorem iC_nu_take {l : List Int} {n : Nat} : (∀ c ∈ (iC l).take n, c.nu) = True := by
  apply propext; refine ⟨fun _ => trivial, fun _ => ?_⟩
  rw [iC_take]; exact iC_nu

section
variable {H : List Ob} {f : Fl}
theorem LeL.lits : ∀ {l : List Int}, LeL H f (iC l) (iC l)
  | [] => .nil
  | n :: l => .cons _ _ _ _ (.lit _) (LeL.lits (l := l))
theorem LeL.two {a b a' b' : V} (h1 : Le H f a a') (h2 : Le H f b b') : LeL H f [a, b] [a', b'] := .cons _ _ _ _ h1 (.cons _ _ _ _ h2 .nil)
theorem LeL.app {a b a' b' : List V} (h1 : LeL H f a a') (h2 : LeL H f b b') : LeL H f (a ++ b) (a' ++ b') := by
  induction h1 using LeL.rec (motive_1 := fun _ _ _ => True) with
  | nil => exact h2
  | cons v v' vs vs' h _ _ ih => exact .cons _ _ _ _ h ih
  | _ => trivial
/-- an own row is lent or handed back -/
theorem Le.ownI {id o n : Nat} {ty : TypeId} {l : List Int} (h : H[id]? = some ⟨.own, ty, iC l⟩) (hn : o + n ≤ l.length) : Le H f (.rsl id 1 o n) (sI f ((l.drop o).take n)) := by
  have hl : ((l.drop o).take n).length = n := by rw [List.length_take, List.length_drop]; omega
  have := Le.rsl (H := H) (f := f) id 1 o n ⟨.own, ty, iC l⟩ (iC ((l.drop o).take n)) h (.inl rfl) (by simp [iC_length]; omega) (by rw [Nat.mul_one, Nat.mul_one, iC_drop, iC_take]; exact LeL.lits)
  rwa [sI, hl]
theorem Le.ownI0 {id : Nat} {ty : TypeId} {l : List Int} (h : H[id]? = some ⟨.own, ty, iC l⟩) {n : Nat} (hn : n = l.length) : Le H f (.rsl id 1 0 n) (sI f l) := by
  subst hn
  have := Le.ownI (f := f) h (o := 0) (n := l.length) (by omega)
  simpa using this
/-- what is lent already, and what is shared -/
theorem Le.slI {g : Fl} (hf : f = .b ∨ g = .s) (hg : g ≠ .u) {l : List Int} : Le H f (sI g l) (sI g l) := by
  refine .sl _ _ _ _ _ _ ?_ LeL.lits
  cases g
  · exact .inl rfl
  · rcases hf with rfl | h
    · exact ⟨rfl, rfl⟩
    · cases h
  · exact absurd rfl hg
theorem Le.slS {l : List Int} : Le H f (sI .s l) (sI .s l) := Le.slI (.inr rfl) (by simp)
theorem Le.empI {g : Fl} : Le H f .emp (sI g []) := .esl _ _
end
end Go.Proofs.Ytekhgkpnhenecaa
