/- part of the proof -/
import Derived.Test.YtchlpclgkhggeaaTWb
namespace Go.Proofs.Ytchlpclgkhggeaa
open Go Go.RowKit
set_option maxRecDepth 100000
set_option maxHeartbeats 4000000
set_option linter.unusedVariables false
set_option linter.unusedSimpArgs false
def farkasP (p : Prg) : Prg:=if fitsP p = true then ⟨p.cols + 1,2 * p.rows + p.cols,rowsL p p.cols.toNat ++ p.b ++ negL p.b ++ zerosL p.cols.toNat,zerosL p.cols.toNat ++ [-1],zerosL (2 * p.rows + p.cols).toNat⟩ else Prg.zero
end Go.Proofs.Ytchlpclgkhggeaa