/- part of the proof -/
import Derived.Test.YtchlpclgkhggeaaTUh
import Derived.Test.YtchlpclgkhggeaaTWd
namespace Go.Proofs.Ytchlpclgkhggeaa
open Go Go.RowKit
set_option maxRecDepth 100000
set_option maxHeartbeats 4000000
set_option linter.unusedVariables false
set_option linter.unusedSimpArgs false
theorem Sz.len {r : Rat} {k a : Nat} (h : Sz r k) (hk : k + 29 ≤ 29 * a) : (lim r.num.natAbs).length ≤ a ∧ (lim r.den).length ≤ a := by
  obtain ⟨h1, h2⟩ := h.nd
  obtain ⟨b, rfl⟩ : ∃ b, a = b + 1 := ⟨a - 1, by omega⟩
  obtain ⟨w, hw⟩ : ∃ w : Nat, w = 29 := ⟨_, rfl⟩
  have e1 : (2 : Nat) ^ k ≤ 2 ^ (w * b) := Nat.pow_le_pow_right (by omega) (by rw [hw]; omega)
  have e2 : (2 : Nat) ^ (w * b) < 1000000000 ^ (b + 1) := by
    rw [Nat.pow_mul]
    have e3 : (2 ^ w) ^ b ≤ 1000000000 ^ b := Nat.pow_le_pow_left (by rw [hw]; decide) b
    have e4 : 1000000000 ^ b < 1000000000 ^ (b + 1) := Nat.pow_lt_pow_right (by decide) (Nat.lt_succ_self b)
    omega
  have key : ∀ n : Nat, n ≤ 2 ^ k → (lim n).length ≤ b + 1 := fun n hn => by
    rw [lim_length_le, show (1000000000 : Int) = ((1000000000 : Nat) : Int) from rfl, ← Int.natCast_pow]
    exact Int.ofNat_lt.2 (Nat.lt_of_le_of_lt hn (Nat.lt_of_le_of_lt e1 e2))
  exact ⟨key _ h1, key _ h2⟩
theorem SI.up {p : Prg} {r c m : Nat} (hp : PD p r c) : ∀ k {s t}, SI p r c m 1 s t → ∃ s' t', SI p r c m (k + 1) s' t'
  | 0, s, t, h => ⟨s, t, h⟩
  | k + 1, s, t, h => by
    obtain ⟨s1, t1, h1⟩ := SI.up hp k h
    obtain ⟨K, t', a1, a2, a3, a4, a5⟩ := SI.max hp h1
    have he : entI (itI m (c + r) (oS p (k + 1)) s1 K) m (c + r) (oS p (k + 1)) = c + r := Classical.byContradiction fun q => by have := (a5 q).1; omega
    exact ⟨_, _, a4 he⟩
end Go.Proofs.Ytchlpclgkhggeaa
