/- part of the proof -/
import Derived.Test.YtpmjjdhnacmphaaTXk
namespace Go.Proofs.Ytpmjjdhnacmphaa
open Go Go.RowKit
set_option maxRecDepth 100000
set_option maxHeartbeats 4000000
set_option linter.unusedVariables false
set_option linter.unusedSimpArgs false
def FirstP (M : Nat → Nat → FQ) (k used n j : Nat) : Prop := used ≤ j ∧ j ≤ n ∧ (∀ i, used ≤ i → i < j → (M i k).num = 0) ∧ (j < n → (M j k).num ≠ 0)
theorem FirstP.uniq {M : Nat → Nat → FQ} {k used n j j' : Nat} (h : FirstP M k used n j) (h' : FirstP M k used n j') : j = j' := by
  obtain ⟨a1, a2, a3, a4⟩ := h
  obtain ⟨b1, b2, b3, b4⟩ := h'
  rcases Nat.lt_trichotomy j j' with h | h | h
  · exact absurd (b3 j a1 h) (a4 (by omega))
  · exact h
  · exact absurd (a3 j' b1 h) (b4 (by omega))
noncomputable def firstR (M : Nat → Nat → FQ) (k used n : Nat) : Nat := by
  classical exact if h : ∃ j, FirstP M k used n j then h.choose else 0
theorem firstR_eq {M : Nat → Nat → FQ} {k used n j : Nat} (h : FirstP M k used n j) : firstR M k used n = j := by
  unfold firstR
  rw [dif_pos ⟨j, h⟩]
  exact FirstP.uniq (Exists.choose_spec _) h
structure RS where
  M : Nat → Nat → FQ
  piv : List Int
  det : FQ
def swapM (M : Nat → Nat → FQ) (a b : Nat) : Nat → Nat → FQ := fun i => if i = a then M b else if i = b then M a else M i
def divM (S : Nat → Nat → FQ) (used k : Nat) : Nat → FQ := fun j => (S used j).div (S used k)
def clrM (S : Nat → Nat → FQ) (used k : Nat) : Nat → Nat → FQ := fun i j =>
  if i = used then divM S used k j else if (S i k).num = 0 then S i j else (S i j).sub ((S i k).mul (divM S used k j))
noncomputable def redStep (n c : Nat) (st : RS) (k : Nat) : Option RS :=
  if firstR st.M k st.piv.length n = n then some st
  else
    let S := swapM st.M (firstR st.M k st.piv.length n) st.piv.length
    let T := clrM S st.piv.length k
    if allG (gridL n c T) = true then some ⟨T, st.piv ++ [(k : Int)], (if firstR st.M k st.piv.length n = st.piv.length then st.det else st.det.neg).mul (S st.piv.length k)⟩ else none
end Go.Proofs.Ytpmjjdhnacmphaa
