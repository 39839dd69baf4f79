/- part of the proof -/
import Derived.Test.YtchlpclgkhggeaaTSa
import Derived.Test.YtchlpclgkhggeaaTUb
import Derived.Test.YtchlpclgkhggeaaTXg
namespace Go.Proofs.Ytchlpclgkhggeaa
open Go Go.RowKit
set_option maxRecDepth 100000
set_option maxHeartbeats 4000000
set_option linter.unusedVariables false
set_option linter.unusedSimpArgs false
theorem oL_succ {n : Nat} {o : Nat → Int} : oL (n + 1) o = oL n o ++ [o n] := by unfold oL; rw [List.range_succ, List.map_append]; rfl
theorem CS.adv_s {l : List Int} {c : CS} {n : Nat} : c.adv l (n + 1) = (c.adv l n).nx l := rfl
def dR (l : List Int) (c : CS) : Nat := (1 + c.to l 3).toNat
def dN (l : List Int) (c : CS) : Nat := (2 + (c.nx l).to l 4).toNat
def xD (l : List Int) (c : CS) (j : Nat) : Int := (c.adv l (2 + 2 * j)).to l 4
def cD (l : List Int) (c : CS) (j : Nat) : Int := (c.adv l (2 + 2 * j + 1)).to l 9 - 4
theorem smZ_rng {f : Nat → Int} {B : Int} : ∀ {n : Nat}, (∀ j, j < n → -B ≤ f j ∧ f j ≤ B) → -(n * B) ≤ smZ n f ∧ smZ n f ≤ n * B
  | 0, _ => by show -((0 : Nat) * B) ≤ (0 : Int) ∧ (0 : Int) ≤ (0 : Nat) * B; simp
  | n + 1, h => by
    have ih := smZ_rng (n := n) (B := B) (f := f) fun j hj => h j (by omega)
    have h1 := h n (by omega)
    show -(((n + 1 : Nat) : Int) * B) ≤ smZ n f + f n ∧ smZ n f + f n ≤ ((n + 1 : Nat) : Int) * B
    have e : ((n + 1 : Nat) : Int) * B = (n : Int) * B + B := by rw [Int.natCast_add, Int.add_mul]; simp
    rw [e]; omega
abbrev zP : Ob := ⟨.own, T_impl_Program, [I 0, I 0, .emp, .emp, .emp]⟩
theorem rslI0 {H : List Ob} {js : List (Option Nat)} {bk : Bool} {id n : Nat} {ty : TypeId} {l : List Int} (h : H[id]? = some ⟨.frz, ty, iC l⟩) (hn : l.length = n) : Rn H js bk (.rsl id 1 0 n) (sI .s l) [] := by
  subst hn
  have e := Rn.rslI (H := H) (js := js) (bk := bk) (id := id) (ty := ty) (l := l) h (Nat.le_refl _)
  rw [List.take_length] at e
  exact e
theorem inB_oL {n : Nat} {o : Nat → Int} (h : ∀ j, j < n → -100 ≤ o j ∧ o j ≤ 100) : inB (-100) 100 (oL n o) = true := by
  unfold inB
  rw [List.all_eq_true]
  intro x hx
  obtain ⟨j, hj, rfl⟩ := List.mem_map.1 hx
  exact decide_eq_true (h j (List.mem_range.1 hj))
theorem inB_apd {a b : List Int} (h : inB (-100) 100 a = true) (g : inB (-100) 100 b = true) : inB (-100) 100 (a ++ b) = true := by
  unfold inB at *
  rw [List.all_append, h, g]; rfl
end Go.Proofs.Ytchlpclgkhggeaa
