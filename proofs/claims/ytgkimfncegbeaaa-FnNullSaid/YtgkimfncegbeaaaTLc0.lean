/- part of the proof -/
import Derived.Test.YtgkimfncegbeaaaTDc
import Derived.Test.YtgkimfncegbeaaaTRd
import Derived.Test.YtgkimfncegbeaaaTKb
import Derived.Test.YtgkimfncegbeaaaTXc
import Derived.Test.YtgkimfncegbeaaaTYe
namespace Go.Proofs.Ytgkimfncegbeaaa
open Go Go.RowKit
set_option maxRecDepth 100000
set_option maxHeartbeats 4000000
set_option linter.unusedVariables false
set_option linter.unusedSimpArgs false
noncomputable def FQ.val (x : FQ) : Rat := x.1.getD 0
theorem numX_val (l : List Int) (c : CS) : FV (numX l c) (numX l c).val 5 := by
  have key : ∀ x : FQ, (∃ r, FV x r 5) → FV x x.val 5 := fun x ⟨r, h⟩ => by
    have : x.val = r := by unfold FQ.val; rw [h.v]; rfl
    rw [this]; exact h
  refine key _ ?_
  unfold numX
  have b1 := CS.to_le (l := l) (c := c.nx l) (n := 41) (by omega)
  have b2 := CS.to_le (l := l) (c := (c.nx l).nx l) (n := 6) (by omega)
  have b3 := CS.to_le (l := l) (c := c.nx l) (n := 21) (by omega)
  split
  · unfold lowQ
    rw [if_neg (by omega)]
    have q : Sz (mkRat ((c.nx l).to l 41 - 20) (1 + ((c.nx l).nx l).to l 6).natAbs) 5 := ⟨_, _, Rat.mkRat_eq_div _ _, by omega, by omega, by omega⟩
    exact ⟨_, fit_sz q (by decide), q⟩
  · exact ⟨_, FV.ofInt (by omega) (by decide)⟩
theorem nX_val (l : List Int) (c : CS) (k : Nat) : FV (nX l c k) (nX l c k).val 5 := numX_val l _
theorem mt_grid {n c : Nat} {X : Nat → Nat → FQ} : mtV .s ⟨n, c, (gridL n c X).map qd⟩ = .agg [I n, I c, .sl .s 3 (n * c) (rsC .s ((gridL n c X).map qd))] := by
  show V.agg [I n, I c, .sl .s 3 ((gridL n c X).map qd).length _] = _
  rw [List.length_map, gridL_length]
theorem byC_only {l : List Int} : V.onlySL (byC l) := by
  induction l with
  | nil => trivial
  | cons a l ih => exact ⟨trivial, ih⟩
theorem byC_tb {l : List Int} : V.tbL (byC l) = byC l := by
  induction l with
  | nil => rfl
  | cons a l ih => show V.tb _ :: V.tbL (byC l) = _ :: byC l; rw [ih]; rfl
theorem by_lent {f : FuncId} {l : List Int} (h : PC PP f [byV .s l] (Bo true) []) (g : Fl) (hg : g ≠ .u) : PC PP f [byV g l] (Bo true) [] := by
  cases g with
  | u => exact absurd rfl hg
  | s => exact h
  | b =>
    have q := h.lentO ⟨byC_only, trivial⟩ trivial (by intro ob hob; cases hob)
    rw [show V.tbL [byV .s l] = [byV .b l] by show [V.sl .b 1 l.length (V.tbL (byC l))] = _; rw [byC_tb]] at q
    exact q
theorem rdN_bytes {e : TypeId} (he : PP.underlying e = some (.int .u8)) : ∀ {n : Nat} {cs : List V}, RdN PP e n cs → ∃ l : List Int, cs = byC l ∧ l.length = n
  | 0, _, .zero _ => ⟨[], rfl, rfl⟩
  | n + 1, _, .succ _ _ vs ws h1 h2 h3 => by
    obtain ⟨m, rfl, _⟩ := rd_int he h1
    obtain ⟨l, rfl, hl⟩ := rdN_bytes he h3
    exact ⟨m :: l, rfl, by simp [hl]⟩
theorem u_bytes : PP.underlying T_sl_uint8 = some (.slice T_uint8) := by kernel_rfl
theorem u_byte : PP.underlying T_uint8 = some (.int .u8) := by kernel_rfl
theorem c_byte : PP.cellsOf T_uint8 = 1 := by kernel_rfl
theorem rdv_bytes {v : V} (h : RdV PP T_sl_uint8 v) : ∃ l : List Int, v = byV .b l ∧ l.length ≤ 9223372036854775807 := by
  obtain ⟨n, cs, e, hn, hr⟩ := rd_slice u_bytes (rdV_one (by intro fs; rw [u_bytes]; simp) h)
  obtain ⟨l, rfl, rfl⟩ := rdN_bytes u_byte hr
  simp only [List.cons.injEq, and_true] at e
  exact ⟨l, by rw [e, c_byte], hn⟩
end Go.Proofs.Ytgkimfncegbeaaa
