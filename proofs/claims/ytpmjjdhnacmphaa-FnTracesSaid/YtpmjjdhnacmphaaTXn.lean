/- part of the proof -/
import Derived.Test.YtpmjjdhnacmphaaTXm
namespace Go.Proofs.Ytpmjjdhnacmphaa
open Go Go.RowKit
set_option maxRecDepth 100000
set_option maxHeartbeats 4000000
set_option linter.unusedVariables false
set_option linter.unusedSimpArgs false
noncomputable def redTo (n c : Nat) (M : Nat → Nat → FQ) : Nat → Option RS
  | 0 => some ⟨M, [], FQ.ofInt 1⟩
  | k + 1 => match redTo n c M k with
    | none => none
    | some st => if st.piv.length < n then redStep n c st k else some st
end Go.Proofs.Ytpmjjdhnacmphaa
