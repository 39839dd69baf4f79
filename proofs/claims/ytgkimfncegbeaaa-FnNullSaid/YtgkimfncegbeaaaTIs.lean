/- part of the proof -/
import Derived.Test.YtgkimfncegbeaaaTKb
namespace Go.Proofs.Ytgkimfncegbeaaa
open Go Go.RowKit
set_option maxRecDepth 100000
set_option linter.unusedVariables false
set_option linter.unusedSimpArgs false
section
variable {E : Env} {H : List Ob} {w : World} {κ : KM} {S : BS} {uss : List (List Nat)}
end
end Go.Proofs.Ytgkimfncegbeaaa
