/- part of the proof -/
import Derived.Test.YtgkimfncegbeaaaGreatTXr
namespace Go.Proofs.YtgkimfncegbeaaaGreat
open Go Go.RowKit
set_option maxRecDepth 100000
set_option maxHeartbeats 4000000
set_option linter.unusedVariables false
set_option linter.unusedSimpArgs false
theorem iC_tb {l : List Int} : V.tbL (iC l) = iC l := by
  induction l with
  | nil => rfl
  | cons a l ih =>
    show V.tb (I a) :: V.tbL (iC l) = I a :: iC l
    rw [ih]; rfl
theorem iC_only {l : List Int} : V.onlySL (iC l) := by
  induction l with
  | nil => trivial
  | cons a l ih => exact ⟨trivial, ih⟩
theorem pQ_tb {x : FQ} : (pQ .s x).tb = pQ .b x := by
  obtain ⟨x, hx⟩ := x
  cases x with
  | none => rfl
  | some r =>
    show V.ptr .b [Bo _, .sl .b 1 _ (V.tbL (iC _)), .sl .b 1 _ (V.tbL (iC _))] = _
    rw [iC_tb, iC_tb]; rfl
theorem pQ_only {x : FQ} : (pQ .s x).onlyS := by
  obtain ⟨x, hx⟩ := x
  cases x with
  | none => trivial
  | some r => exact ⟨trivial, iC_only, iC_only, trivial⟩
theorem qs_tb {l : List FQ} : V.tbL (qs .s l) = qs .b l := by
  induction l with
  | nil => rfl
  | cons x l ih =>
    show (pQ .s x).tb :: V.tbL (qs .s l) = pQ .b x :: qs .b l
    rw [pQ_tb, ih]
theorem qs_only {l : List FQ} : V.onlySL (qs .s l) := by
  induction l with
  | nil => trivial
  | cons x l ih => exact ⟨pQ_only, ih⟩
theorem tbL_app {a b : List V} : V.tbL (a ++ b) = V.tbL a ++ V.tbL b := by
  induction a with
  | nil => rfl
  | cons x a ih => show V.tb x :: V.tbL (a ++ b) = V.tb x :: (V.tbL a ++ V.tbL b); rw [ih]
theorem onlySL_app {a b : List V} (ha : V.onlySL a) (hb : V.onlySL b) : V.onlySL (a ++ b) := by
  induction a with
  | nil => exact hb
  | cons x a ih => exact ⟨ha.1, ih ha.2⟩
theorem gC_tb {n c : Nat} {M : Nat → Nat → FQ} : V.tbL (gC .s .s n c M) = gC .b .b n c M := by
  induction n with
  | zero => rfl
  | succ n ih =>
    rw [gC_succ, gC_succ, tbL_app, ih]
    show _ ++ [V.sl .b 1 c (V.tbL (qs .s (rowQ c (M n))))] = _
    rw [qs_tb]
theorem gC_only {n c : Nat} {M : Nat → Nat → FQ} : V.onlySL (gC .s .s n c M) := by
  induction n with
  | zero => trivial
  | succ n ih => rw [gC_succ]; exact onlySL_app ih ⟨qs_only, trivial⟩
theorem reduce_b (n c : Nat) (hn : n ≤ 24) (hc : c ≤ 64) (M : Nat → Nat → FQ) (hg : ∀ i j, i < n → j < c → (M i j).good = true) :
    PB PP F_impl_grid_reduce [gV .b n c M] (match redTo n c M c with
      | some st => .tup [.agg [I n, I c, .sl .b 1 n (gC .b .b n c st.M), .rsl 0 1 0 st.piv.length, pQ .b st.det], Bo true]
      | none => .tup [.agg [I 0, I 0, .emp, .emp, .lit (.pointer none)], Bo false]) (redB (redTo n c M c)) := by
  have q := (reduce_g n c hn hc M hg).pc
  cases h : redTo n c M c with
  | none =>
    rw [h] at q
    have q2 := q.lent ⟨⟨trivial, trivial, gC_only, trivial⟩, trivial⟩ ⟨⟨trivial, trivial, trivial, trivial, trivial, trivial⟩, trivial, trivial⟩ (by intro ob hob; cases hob)
    rw [show V.tbL [gV .s n c M] = [gV .b n c M] by show [V.agg [I n, I c, .sl .b 1 n (V.tbL (gC .s .s n c M))]] = _; rw [gC_tb]] at q2
    exact q2
  | some st =>
    rw [h] at q
    have q2 := q.lent ⟨⟨trivial, trivial, gC_only, trivial⟩, trivial⟩ ⟨⟨trivial, trivial, gC_only, trivial, pQ_only, trivial⟩, trivial, trivial⟩ (by
      intro ob hob
      simp only [redB, List.mem_cons, List.not_mem_nil, or_false] at hob
      subst hob
      exact ⟨rfl, iC_only⟩)
    rw [show V.tbL [gV .s n c M] = [gV .b n c M] by show [V.agg [I n, I c, .sl .b 1 n (V.tbL (gC .s .s n c M))]] = _; rw [gC_tb]] at q2
    have e1 : (redV n c (some st)).tb = .tup [.agg [I n, I c, .sl .b 1 n (gC .b .b n c st.M), .rsl 0 1 0 st.piv.length, pQ .b st.det], Bo true] := by
      show V.tup [.agg [I n, I c, .sl .b 1 n (V.tbL (gC .s .s n c st.M)), .rsl 0 1 0 st.piv.length, (pQ .s st.det).tb], Bo true] = _
      rw [gC_tb, pQ_tb]
    have e2 : (redB (some st)).map (fun ob => { ob with cs := V.tbL ob.cs }) = redB (some st) := by
      show [(⟨.own, T_int, V.tbL (iC st.piv)⟩ : Ob)] = _
      rw [iC_tb]; rfl
    rw [e1, e2] at q2
    exact q2
end Go.Proofs.YtgkimfncegbeaaaGreat
