/- part of the proof -/
import Derived.Test.YtchlpclgkhggeaaTXg
namespace Go.Proofs.Ytchlpclgkhggeaa
open Go Go.RowKit
set_option maxRecDepth 100000
set_option maxHeartbeats 4000000
set_option linter.unusedVariables false
set_option linter.unusedSimpArgs false
def rowI (p : Prg) (i : Nat) : List Int := (p.a.drop (i * p.cols.toNat)).take p.cols.toNat
theorem rowI_facts {p : Prg} (ho : okP' p = true) {i : Nat} (hi : (i : Int) < p.rows) : ∃ c : Nat, p.cols = c ∧ c ≤ 40 ∧ i * c + c ≤ p.a.length ∧ p.a.length ≤ 800 ∧ (rowI p i).length = c ∧ rowI p i = (p.a.drop (i * c)).take c := by
  obtain ⟨⟨r1, r2⟩, ⟨c1, c2⟩, hal, _⟩ := okP_spec ho
  obtain ⟨c, hc⟩ : ∃ c : Nat, p.cols = c := ⟨p.cols.toNat, by omega⟩
  obtain ⟨r, hr⟩ : ∃ r : Nat, p.rows = r := ⟨p.rows.toNat, by omega⟩
  rw [hr, hc, ← Int.natCast_mul] at hal
  have h1 : (i + 1) * c ≤ r * c := Nat.mul_le_mul_right c (by omega)
  have h2 : r * c ≤ 20 * 40 := Nat.mul_le_mul (by omega) (by omega)
  rw [Nat.succ_mul] at h1
  have e : p.cols.toNat = c := by omega
  refine ⟨c, hc, by omega, by omega, by omega, ?_, by unfold rowI; rw [e]⟩
  unfold rowI
  rw [e, List.length_take, List.length_drop]
  omega
theorem sml_row {p : Prg} (ho : okP' p = true) {i : Nat} (hi : (i : Int) < p.rows) : sml (rowI p i) := by
  obtain ⟨c, hc, h40, h1, h2, hl, e⟩ := rowI_facts ho hi
  obtain ⟨_, _, _, _, _, ia, _⟩ := okP_spec ho
  intro k hk
  rw [hl] at hk
  have : (rowI p i).getD k 0 = p.a.getD (i * c + k) 0 := by
    rw [e, List.getD_eq_getElem?_getD, List.getElem?_take_of_lt hk, List.getElem?_drop, ← List.getD_eq_getElem?_getD]
  rw [this]
  exact inB_get ia (by omega)
theorem iC_cut {l : List Int} {i c : Nat} : ((iC l).drop i).take c = iC ((l.drop i).take c) := by simp [iC, List.map_take, List.map_drop]
theorem l09Row_b (f : Fl) (hf : f ≠ .u) (p : Prg) (i : Nat) (ho : okP' p = true) (hi : (i : Int) < p.rows) : PB PP F_spec_l09Row [pV f p, I i] (sI .b (rowI p i)) [] := by
  obtain ⟨c, hc, h40, h1, h2, hl, e⟩ := rowI_facts ho hi
  obtain ⟨⟨r1, r2⟩, _⟩ := okP_spec ho
  have e1 : (i : Int) * (c : Int) = ((i * c : Nat) : Int) := by rw [Int.natCast_mul]
  have e2 : ((i : Int) + 1) * (c : Int) = ((i * c + c : Nat) : Int) := by rw [Int.add_mul, Int.one_mul, e1]; omega
  have e3 : (i * c + c) - i * c = c := by omega
  refine txb W_spec_l09Row ke_spec_l09Row [] [] [] (by kernel_rfl) ?_
  simp -dsimp(disch:=first|exact om|fail)only[go_sem,↓reduceIte,Nat.reduceEqDiff,Nat.reduceAdd,Nat.reduceSub,Nat.reduceMul,Nat.reduceLT,Nat.reduceLeDiff,reduceCtorEq,a_eq,a_neq,a_cast0,a_pred,a_app1,a_zero,Int.reduceToNat, pC, hc, e1, e2]
  rw [e3, iC_cut, ← e]
  rw [show sI .b (rowI p i) = .sl .b 1 c (iC (rowI p i)) by show V.sl .b 1 (rowI p i).length _ = _; rw [hl]]
  exact RtB.nothing [] (by decide) trivial (Rn.lent hf)
end Go.Proofs.Ytchlpclgkhggeaa
