/- part of the proof -/
import Derived.Test.YtchlpclgkhggeaaTTp
namespace Go.Proofs.Ytchlpclgkhggeaa
open Go Go.RowKit
set_option maxRecDepth 100000
set_option maxHeartbeats 4000000
set_option linter.unusedVariables false
set_option linter.unusedSimpArgs false
def negW (l : List Int) : List Int := l.map fun n => IntKind.wrap .i64 (-n)
theorem negW_length {l : List Int} : (negW l).length = l.length := by simp [negW]
theorem negW_push {l : List Int} {k : Nat} (h : k < l.length) : (negW l).take (k + 1) = (negW l).take k ++ [IntKind.wrap .i64 (-l.getD k 0)] := by
  rw [take_push (by rw [negW_length]; exact h)]
  congr 2
  unfold negW
  rw [List.getD_eq_getElem?_getD, List.getElem?_map, List.getElem?_eq_getElem h, List.getD_eq_getElem?_getD, List.getElem?_eq_getElem h]; rfl
def leastP (p : Prg) : Prg := ⟨p.rows, p.cols, p.a, p.b, negW p.c⟩
noncomputable def leastQ (q : QD) : QD := if q.code = 0 then ⟨q.code, q.x, qd (rdq q.value).neg⟩ else q
theorem solP_val (p : Prg) : ∃ v, (solP p).value = qd v := by
  unfold solP
  split
  · exact ⟨_, rfl⟩
  · exact ⟨FQ.bad, qd_bad.symm⟩
end Go.Proofs.Ytchlpclgkhggeaa
