/- part of the proof -/
import Derived.Test.YtpmjjdhnacmphaaTJa
namespace Go.Proofs.Ytpmjjdhnacmphaa
open Go Go.RowKit
set_option maxRecDepth 100000
set_option maxHeartbeats 4000000
set_option linter.unusedVariables false
set_option linter.unusedSimpArgs false
end Go.Proofs.Ytpmjjdhnacmphaa
namespace Go.Proofs.Ytpmjjdhnacmphaa
open Go Go.RowKit
set_option maxRecDepth 100000
set_option maxHeartbeats 4000000
set_option linter.unusedVariables false
set_option linter.unusedSimpArgs false
def MD.zero : MD := ⟨0, 0, []⟩
def MD.ok (m : MD) : Bool := decide (0 ≤ m.rows ∧ m.rows ≤ 24) && decide (0 ≤ m.cols ∧ m.cols ≤ 24) && decide ((m.cells.length : Int) = m.rows * m.cols) && m.cells.all RD.ok
end Go.Proofs.Ytpmjjdhnacmphaa
namespace Go.Proofs.Ytpmjjdhnacmphaa
open Go Go.RowKit
set_option maxRecDepth 100000
set_option maxHeartbeats 4000000
set_option linter.unusedVariables false
set_option linter.unusedSimpArgs false
end Go.Proofs.Ytpmjjdhnacmphaa
namespace Go.Proofs.Ytpmjjdhnacmphaa
open Go Go.RowKit
set_option maxRecDepth 100000
set_option maxHeartbeats 4000000
set_option linter.unusedVariables false
set_option linter.unusedSimpArgs false
section
variable {lt : List Nat} {s : St} {t u : TypeId} {x y z : Operand} {n : Nat} {b : BinOp} {c : UnOp} {k : Call} {a : Array (Nat × Operand)}
@[go_sem ↓] theorem sepO_load : sepO lt (.load t x) s = True := (rfl)
@[go_sem ↓] theorem sepO_move : sepO lt (.move x) s = True := (rfl)
@[go_sem ↓] theorem sepO_assign : sepO lt (.assign x) s = True := (rfl)
@[go_sem ↓] theorem sepO_nilc : sepO lt (.nilCheck x) s = True := (rfl)
@[go_sem ↓] theorem sepO_fa : sepO lt (.fieldAddr t x n) s = True := (rfl)
@[go_sem ↓] theorem sepO_ia : sepO lt (.indexAddr t x y) s = True := (rfl)
@[go_sem ↓] theorem sepO_bin : sepO lt (.binOp b t x y u) s = True := (rfl)
@[go_sem ↓] theorem sepO_un : sepO lt (.unOp c t x) s = True := (rfl)
@[go_sem ↓] theorem sepO_pick : sepO lt (.pick x y z) s = True := (rfl)
@[go_sem ↓] theorem sepO_call : sepO lt (.call k) s = True := (rfl)
@[go_sem ↓] theorem sepO_box : sepO lt (.box t x) s = True := (rfl)
@[go_sem ↓] theorem sepO_alloc : sepO lt (.alloc t) s = True := (rfl)
@[go_sem ↓] theorem sepO_build : sepO lt (.build t a) s = True := (rfl)
@[go_sem ↓] theorem sepO_bsl : sepO lt (.buildSlice t n a) s = True := (rfl)
end
end Go.Proofs.Ytpmjjdhnacmphaa
