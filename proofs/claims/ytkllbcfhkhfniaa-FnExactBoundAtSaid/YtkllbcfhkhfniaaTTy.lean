/- part of the proof -/
import Derived.Test.YtkllbcfhkhfniaaTFc
import Derived.Test.YtkllbcfhkhfniaaProg
import Derived.KernelRfl
namespace Go.Proofs.Ytkllbcfhkhfniaa
open Go Go.RowKit
set_option linter.unusedVariables false
set_option linter.unusedSimpArgs false
noncomputable abbrev PP := Try.prog
@[go_sem] theorem tyz3 : tsz PP 3 = some 1 := by kernel_rfl
@[go_sem] theorem tya3 : tagg PP 3 = some false := by kernel_rfl
@[go_sem] theorem tyb3 : tbt PP 3 = some 8 := by kernel_rfl
@[go_sem] theorem tyo3 : tzer PP 3 = some [.lit (.int .i64 0)] := by kernel_rfl
@[go_sem] theorem tyi3 : tint PP 3 = some .i64 := by kernel_rfl
@[go_sem] theorem tyz4 : tsz PP 4 = some 1 := by kernel_rfl
@[go_sem] theorem tya4 : tagg PP 4 = some false := by kernel_rfl
@[go_sem] theorem tyl4 : tbool PP 4 = true := by kernel_rfl
@[go_sem] theorem tyz22 : tsz PP 22 = some 1 := by kernel_rfl
@[go_sem] theorem tya22 : tagg PP 22 = some false := by kernel_rfl
@[go_sem] theorem tys22 : tsl PP 22 = some (3, 1) := by kernel_rfl
@[go_sem] theorem tyz24 : tsz PP 24 = some 5 := by kernel_rfl
@[go_sem] theorem tya24 : tagg PP 24 = some true := by kernel_rfl
@[go_sem] theorem tyf24_0 : tfld PP 24 0 = some (0, 1, false) := by kernel_rfl
@[go_sem] theorem tyf24_1 : tfld PP 24 1 = some (1, 1, false) := by kernel_rfl
@[go_sem] theorem tyf24_2 : tfld PP 24 2 = some (2, 1, false) := by kernel_rfl
@[go_sem] theorem tyf24_3 : tfld PP 24 3 = some (3, 1, false) := by kernel_rfl
@[go_sem] theorem tyf24_4 : tfld PP 24 4 = some (4, 1, false) := by kernel_rfl
@[go_sem] theorem tyz26 : tsz PP 26 = some 5 := by kernel_rfl
@[go_sem] theorem tya26 : tagg PP 26 = some true := by kernel_rfl
@[go_sem] theorem tyo26 : tzer PP 26 = some [.lit (.int .i64 0), .lit (.int .i64 0), .emp, .emp, .emp] := by kernel_rfl
@[go_sem] theorem tyf26_0 : tfld PP 26 0 = some (0, 1, false) := by kernel_rfl
@[go_sem] theorem tyf26_1 : tfld PP 26 1 = some (1, 1, false) := by kernel_rfl
@[go_sem] theorem tyf26_2 : tfld PP 26 2 = some (2, 1, false) := by kernel_rfl
@[go_sem] theorem tyf26_3 : tfld PP 26 3 = some (3, 1, false) := by kernel_rfl
@[go_sem] theorem tyf26_4 : tfld PP 26 4 = some (4, 1, false) := by kernel_rfl
@[go_sem] theorem tys33 : tsl PP 33 = some (40, 3) := by kernel_rfl
@[go_sem] theorem tyz38 : tsz PP 38 = some 2 := by kernel_rfl
@[go_sem] theorem tya38 : tagg PP 38 = some true := by kernel_rfl
@[go_sem] theorem tyo38 : tzer PP 38 = some [.lit (.bool false), .emp] := by kernel_rfl
@[go_sem] theorem tyf38_0 : tfld PP 38 0 = some (0, 1, false) := by kernel_rfl
@[go_sem] theorem tyf38_1 : tfld PP 38 1 = some (1, 1, false) := by kernel_rfl
@[go_sem] theorem typ38 : tplc PP 38 = some [(0, 1), (1, 1)] := by kernel_rfl
@[go_sem] theorem tyz40 : tsz PP 40 = some 3 := by kernel_rfl
@[go_sem] theorem tya40 : tagg PP 40 = some true := by kernel_rfl
@[go_sem] theorem tyb40 : tbt PP 40 = some 56 := by kernel_rfl
@[go_sem] theorem tyo40 : tzer PP 40 = some [.lit (.bool false), .emp, .emp] := by kernel_rfl
@[go_sem] theorem tyf40_0 : tfld PP 40 0 = some (0, 2, true) := by kernel_rfl
@[go_sem] theorem tyf40_1 : tfld PP 40 1 = some (2, 1, false) := by kernel_rfl
@[go_sem] theorem typ40 : tplc PP 40 = some [(0, 2), (2, 1)] := by kernel_rfl
@[go_sem] theorem tys60 : tsl PP 60 = some (80, 3) := by kernel_rfl
@[go_sem] theorem tyz78 : tsz PP 78 = some 2 := by kernel_rfl
@[go_sem] theorem tya78 : tagg PP 78 = some true := by kernel_rfl
@[go_sem] theorem tyf78_0 : tfld PP 78 0 = some (0, 1, false) := by kernel_rfl
@[go_sem] theorem tyf78_1 : tfld PP 78 1 = some (1, 1, false) := by kernel_rfl
@[go_sem] theorem tyz80 : tsz PP 80 = some 3 := by kernel_rfl
@[go_sem] theorem tya80 : tagg PP 80 = some true := by kernel_rfl
@[go_sem] theorem tyf80_0 : tfld PP 80 0 = some (0, 2, true) := by kernel_rfl
@[go_sem] theorem tyf80_1 : tfld PP 80 1 = some (2, 1, false) := by kernel_rfl
@[go_sem] theorem tyz101 : tsz PP 101 = some 1 := by kernel_rfl
@[go_sem] theorem tya101 : tagg PP 101 = some false := by kernel_rfl
@[go_sem] theorem tyb101 : tbt PP 101 = some 8 := by kernel_rfl
@[go_sem] theorem tyo101 : tzer PP 101 = some [.lit (.pointer none)] := by kernel_rfl
@[go_sem] theorem tyq101 : tptr PP 101 = true := by kernel_rfl
@[go_sem] theorem tys108 : tsl PP 108 = some (101, 1) := by kernel_rfl
@[go_sem] theorem tyo159 : tzer PP 159 = some [.lit (.bool false), .emp, .emp] := by kernel_rfl
@[go_sem] theorem tyf159_0 : tfld PP 159 0 = some (0, 2, true) := by kernel_rfl
@[go_sem] theorem tyf159_1 : tfld PP 159 1 = some (2, 1, false) := by kernel_rfl
@[go_sem] theorem typ159 : tplc PP 159 = some [(0, 2), (2, 1)] := by kernel_rfl
@[go_sem] theorem tyi176 : tint PP 176 = some .u64 := by kernel_rfl
end Go.Proofs.Ytkllbcfhkhfniaa
