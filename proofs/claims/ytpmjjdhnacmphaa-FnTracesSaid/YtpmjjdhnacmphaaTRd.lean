/- part of the proof -/
import Derived.Test.YtpmjjdhnacmphaaTRc
import Derived.Test.YtpmjjdhnacmphaaTXq
import Derived.Test.YtpmjjdhnacmphaaTKb
import Derived.Test.YtpmjjdhnacmphaaTKa
import Derived.Test.YtpmjjdhnacmphaaTGr
import Derived.Test.YtpmjjdhnacmphaaTJa
namespace Go.Proofs.Ytpmjjdhnacmphaa
open Go Go.RowKit
set_option maxRecDepth 100000
set_option maxHeartbeats 4000000
set_option linter.unusedVariables false
set_option linter.unusedSimpArgs false
theorem rowQ_congr {n : Nat} {g h : Nat → FQ} (e : ∀ i, i < n → g i = h i) : rowQ n g = rowQ n h := List.map_congr_left fun i hi => e i (List.mem_range.1 hi)
end Go.Proofs.Ytpmjjdhnacmphaa
