/- part of the proof -/
import Derived.Test.YtpmjjdhnacmphaaTFc
import Derived.Test.YtpmjjdhnacmphaaProg
import Derived.KernelRfl
namespace Go.Proofs.Ytpmjjdhnacmphaa
open Go Go.RowKit
set_option linter.unusedVariables false
set_option linter.unusedSimpArgs false
noncomputable abbrev PP := Try.prog
@[go_sem] theorem tyz3 : tsz PP 3 = some 1 := by kernel_rfl
@[go_sem] theorem tya3 : tagg PP 3 = some false := by kernel_rfl
@[go_sem] theorem tyb3 : tbt PP 3 = some 8 := by kernel_rfl
@[go_sem] theorem tyo3 : tzer PP 3 = some [.lit (.int .i64 0)] := by kernel_rfl
@[go_sem] theorem tyz22 : tsz PP 22 = some 1 := by kernel_rfl
@[go_sem] theorem tya22 : tagg PP 22 = some false := by kernel_rfl
@[go_sem] theorem tys22 : tsl PP 22 = some (3, 1) := by kernel_rfl
@[go_sem] theorem tyz24 : tsz PP 24 = some 5 := by kernel_rfl
@[go_sem] theorem tya24 : tagg PP 24 = some true := by kernel_rfl
@[go_sem] theorem tyf24_0 : tfld PP 24 0 = some (0, 1, false) := by kernel_rfl
@[go_sem] theorem tyf24_1 : tfld PP 24 1 = some (1, 1, false) := by kernel_rfl
@[go_sem] theorem tyf24_2 : tfld PP 24 2 = some (2, 1, false) := by kernel_rfl
@[go_sem] theorem tyf24_3 : tfld PP 24 3 = some (3, 1, false) := by kernel_rfl
@[go_sem] theorem tyf24_4 : tfld PP 24 4 = some (4, 1, false) := by kernel_rfl
@[go_sem] theorem tyz26 : tsz PP 26 = some 5 := by kernel_rfl
@[go_sem] theorem tya26 : tagg PP 26 = some true := by kernel_rfl
@[go_sem] theorem tyo26 : tzer PP 26 = some [.lit (.int .i64 0), .lit (.int .i64 0), .emp, .emp, .emp] := by kernel_rfl
@[go_sem] theorem tyf26_0 : tfld PP 26 0 = some (0, 1, false) := by kernel_rfl
@[go_sem] theorem tyf26_1 : tfld PP 26 1 = some (1, 1, false) := by kernel_rfl
@[go_sem] theorem tyf26_2 : tfld PP 26 2 = some (2, 1, false) := by kernel_rfl
@[go_sem] theorem tyf26_3 : tfld PP 26 3 = some (3, 1, false) := by kernel_rfl
@[go_sem] theorem tyf26_4 : tfld PP 26 4 = some (4, 1, false) := by kernel_rfl
@[go_sem] theorem typ26 : tplc PP 26 = some [(0, 1), (1, 1), (2, 1), (3, 1), (4, 1)] := by kernel_rfl
end Go.Proofs.Ytpmjjdhnacmphaa
