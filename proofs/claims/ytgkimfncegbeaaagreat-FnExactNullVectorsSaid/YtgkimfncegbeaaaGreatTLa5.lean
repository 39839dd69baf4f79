/- part of the proof -/
import Derived.Test.YtgkimfncegbeaaaGreatTKa
import Derived.Test.YtgkimfncegbeaaaGreatTGr
import Derived.Test.YtgkimfncegbeaaaGreatTLa4
namespace Go.Proofs.YtgkimfncegbeaaaGreat
open Go Go.RowKit
set_option maxRecDepth 100000
set_option maxHeartbeats 4000000
set_option linter.unusedVariables false
set_option linter.unusedSimpArgs false
theorem st_mat : structOf PP T_laws_Matrix = some [T_int, T_int, T_sl_laws_Rat] := by kernel_rfl
theorem rdv_matrix {v : V} (h : RdV PP T_laws_Matrix v) : ∃ m : MD, v = mtV .b m ∧ fitL m.cells := by
  have key : ∀ vs, RdS PP [T_int, T_int, T_sl_laws_Rat] vs → ∃ m : MD, vs = mtC .b m ∧ fitL m.cells := by
    intro vs h
    obtain ⟨v1, w1, rfl, h1, _, h⟩ := rdS_cons h
    obtain ⟨v2, w2, rfl, h2, _, h⟩ := rdS_cons h
    obtain ⟨v3, w3, rfl, h3, _, h⟩ := rdS_cons h
    obtain rfl := rdS_nil h
    obtain ⟨r, rfl, _⟩ := rd_int u_int h1
    obtain ⟨c, rfl, _⟩ := rd_int u_int h2
    obtain ⟨l, rfl, hl⟩ := rd_rats h3
    exact ⟨⟨r, c, l⟩, rfl, hl⟩
  obtain ⟨vs, rfl, hs⟩ := rdv_struct st_mat h (by
    intro vs h e
    obtain ⟨m, rfl, _⟩ := key _ h
    simp [mtC] at e)
  obtain ⟨m, rfl, hm⟩ := key _ hs
  exact ⟨m, rfl, hm⟩
end Go.Proofs.YtgkimfncegbeaaaGreat
