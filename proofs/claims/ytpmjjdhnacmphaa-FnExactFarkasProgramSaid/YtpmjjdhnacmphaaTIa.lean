/- part of the proof -/
import Derived.Test.YtpmjjdhnacmphaaTHc
import Derived.Test.YtpmjjdhnacmphaaTGa
namespace Go.Proofs.Ytpmjjdhnacmphaa
open Go Go.RowKit
set_option maxRecDepth 100000
set_option linter.unusedVariables false
set_option linter.unusedSimpArgs false
def okq (x : Option Rat) : Prop := ∀ r, x = some r → (lim r.num.natAbs).length ≤ 24 ∧ (lim r.den).length ≤ 24
structure FQ where
  x : Option Rat
  ok : okq x
def FQ.bad : FQ := ⟨none, by intro r h; cases h⟩
def FQ.fit (r : Rat) : FQ := if h : (lim r.num.natAbs).length ≤ 24 ∧ (lim r.den).length ≤ 24 then ⟨some r, by intro r' e; cases e; exact h⟩ else FQ.bad
def FQ.num (x : FQ) : Int := match x.1 with
  | some r => r.num
  | none => 0
def FQ.den (x : FQ) : Nat := match x.1 with
  | some r => r.den
  | none => 0
def lift2 (f : Rat → Rat → Rat) (x y : FQ) : FQ := match x.1, y.1 with
  | some a, some b => FQ.fit (f a b)
  | _, _ => FQ.bad
def FQ.add (x y : FQ) : FQ := lift2 (· + ·) x y
def FQ.sub (x y : FQ) : FQ := lift2 (· - ·) x y
def FQ.mul (x y : FQ) : FQ := lift2 (· * ·) x y
def FQ.neg (x : FQ) : FQ := ⟨x.1.map (- ·), by
  intro r h
  obtain ⟨x, hx⟩ := x
  cases x with
  | none => cases h
  | some a =>
    simp only [Option.map_some, Option.some.injEq] at h
    subst h
    have := hx a rfl
    exact ⟨by rw [show (-a).num = -a.num from rfl, Int.natAbs_neg]; exact this.1, this.2⟩⟩
def FQ.ofInt (n : Int) : FQ := FQ.fit n
theorem FQ.ext {x y : FQ} (h : x.1 = y.1) : x = y := by
  obtain ⟨x, _⟩ := x
  obtain ⟨y, _⟩ := y
  simp only at h; subst h; rfl
def RD.ok (r : RD) : Bool := okN r.mag && !(r.neg && decide (r.mag.length = 0)) && okN r.den && decide (r.den.length ≠ 0) && decide (r.den.length ≤ 24) && decide (r.mag.length ≤ 24) && decide (lim (Nat.gcd (vl r.mag).toNat (vl r.den).toNat) = [1])
end Go.Proofs.Ytpmjjdhnacmphaa
namespace Go.Proofs.Ytpmjjdhnacmphaa
open Go Go.RowKit
set_option maxRecDepth 100000
set_option maxHeartbeats 1600000
set_option linter.unusedVariables false
set_option linter.unusedSimpArgs false
end Go.Proofs.Ytpmjjdhnacmphaa
namespace Go.Proofs.Ytpmjjdhnacmphaa
open Go Go.RowKit
set_option maxRecDepth 100000
set_option maxHeartbeats 1600000
set_option linter.unusedVariables false
set_option linter.unusedSimpArgs false
end Go.Proofs.Ytpmjjdhnacmphaa
namespace Go.Proofs.Ytpmjjdhnacmphaa
open Go Go.RowKit
set_option maxRecDepth 100000
set_option maxHeartbeats 1600000
set_option linter.unusedVariables false
set_option linter.unusedSimpArgs false
end Go.Proofs.Ytpmjjdhnacmphaa
