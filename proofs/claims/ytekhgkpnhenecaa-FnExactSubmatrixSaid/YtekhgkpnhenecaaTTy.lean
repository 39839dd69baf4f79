/- part of the proof -/
import Derived.Test.YtekhgkpnhenecaaTFc
import Derived.Test.YtekhgkpnhenecaaProg
import Derived.KernelRfl
namespace Go.Proofs.Ytekhgkpnhenecaa
open Go Go.RowKit
set_option linter.unusedVariables false
set_option linter.unusedSimpArgs false
noncomputable abbrev PP := Try.prog
@[go_sem] theorem tyz3 : tsz PP 3 = some 1 := by kernel_rfl
@[go_sem] theorem tya3 : tagg PP 3 = some false := by kernel_rfl
@[go_sem] theorem tyb3 : tbt PP 3 = some 8 := by kernel_rfl
@[go_sem] theorem tyo3 : tzer PP 3 = some [.lit (.int .i64 0)] := by kernel_rfl
@[go_sem] theorem tyi3 : tint PP 3 = some .i64 := by kernel_rfl
@[go_sem] theorem tyz4 : tsz PP 4 = some 1 := by kernel_rfl
@[go_sem] theorem tya4 : tagg PP 4 = some false := by kernel_rfl
@[go_sem] theorem tyl4 : tbool PP 4 = true := by kernel_rfl
@[go_sem] theorem tyz22 : tsz PP 22 = some 1 := by kernel_rfl
@[go_sem] theorem tya22 : tagg PP 22 = some false := by kernel_rfl
@[go_sem] theorem tys22 : tsl PP 22 = some (3, 1) := by kernel_rfl
@[go_sem] theorem tyz36 : tsz PP 36 = some 1 := by kernel_rfl
@[go_sem] theorem tya36 : tagg PP 36 = some false := by kernel_rfl
@[go_sem] theorem tys36 : tsl PP 36 = some (40, 3) := by kernel_rfl
@[go_sem] theorem tyz38 : tsz PP 38 = some 2 := by kernel_rfl
@[go_sem] theorem tya38 : tagg PP 38 = some true := by kernel_rfl
@[go_sem] theorem tyf38_0 : tfld PP 38 0 = some (0, 1, false) := by kernel_rfl
@[go_sem] theorem tyf38_1 : tfld PP 38 1 = some (1, 1, false) := by kernel_rfl
@[go_sem] theorem tyz40 : tsz PP 40 = some 3 := by kernel_rfl
@[go_sem] theorem tya40 : tagg PP 40 = some true := by kernel_rfl
@[go_sem] theorem tyf40_0 : tfld PP 40 0 = some (0, 2, true) := by kernel_rfl
@[go_sem] theorem tyf40_1 : tfld PP 40 1 = some (2, 1, false) := by kernel_rfl
@[go_sem] theorem tyz45 : tsz PP 45 = some 1 := by kernel_rfl
@[go_sem] theorem tya45 : tagg PP 45 = some false := by kernel_rfl
@[go_sem] theorem tys45 : tsl PP 45 = some (48, 3) := by kernel_rfl
@[go_sem] theorem tyz46 : tsz PP 46 = some 2 := by kernel_rfl
@[go_sem] theorem tya46 : tagg PP 46 = some true := by kernel_rfl
@[go_sem] theorem tyo46 : tzer PP 46 = some [.lit (.bool false), .emp] := by kernel_rfl
@[go_sem] theorem tyf46_0 : tfld PP 46 0 = some (0, 1, false) := by kernel_rfl
@[go_sem] theorem tyf46_1 : tfld PP 46 1 = some (1, 1, false) := by kernel_rfl
@[go_sem] theorem typ46 : tplc PP 46 = some [(0, 1), (1, 1)] := by kernel_rfl
@[go_sem] theorem tyz48 : tsz PP 48 = some 3 := by kernel_rfl
@[go_sem] theorem tya48 : tagg PP 48 = some true := by kernel_rfl
@[go_sem] theorem tyb48 : tbt PP 48 = some 56 := by kernel_rfl
@[go_sem] theorem tyo48 : tzer PP 48 = some [.lit (.bool false), .emp, .emp] := by kernel_rfl
@[go_sem] theorem tyf48_0 : tfld PP 48 0 = some (0, 2, true) := by kernel_rfl
@[go_sem] theorem tyf48_1 : tfld PP 48 1 = some (2, 1, false) := by kernel_rfl
@[go_sem] theorem typ48 : tplc PP 48 = some [(0, 2), (2, 1)] := by kernel_rfl
@[go_sem] theorem tyz55 : tsz PP 55 = some 3 := by kernel_rfl
@[go_sem] theorem tya55 : tagg PP 55 = some true := by kernel_rfl
@[go_sem] theorem tyf55_0 : tfld PP 55 0 = some (0, 1, false) := by kernel_rfl
@[go_sem] theorem tyf55_1 : tfld PP 55 1 = some (1, 1, false) := by kernel_rfl
@[go_sem] theorem tyf55_2 : tfld PP 55 2 = some (2, 1, false) := by kernel_rfl
@[go_sem] theorem tyz59 : tsz PP 59 = some 3 := by kernel_rfl
@[go_sem] theorem tya59 : tagg PP 59 = some true := by kernel_rfl
@[go_sem] theorem tyo59 : tzer PP 59 = some [.lit (.int .i64 0), .lit (.int .i64 0), .emp] := by kernel_rfl
@[go_sem] theorem tyf59_0 : tfld PP 59 0 = some (0, 1, false) := by kernel_rfl
@[go_sem] theorem tyf59_1 : tfld PP 59 1 = some (1, 1, false) := by kernel_rfl
@[go_sem] theorem tyf59_2 : tfld PP 59 2 = some (2, 1, false) := by kernel_rfl
@[go_sem] theorem typ59 : tplc PP 59 = some [(0, 1), (1, 1), (2, 1)] := by kernel_rfl
@[go_sem] theorem tyz92 : tsz PP 92 = some 1 := by kernel_rfl
@[go_sem] theorem tya92 : tagg PP 92 = some false := by kernel_rfl
@[go_sem] theorem tys92 : tsl PP 92 = some (99, 1) := by kernel_rfl
@[go_sem] theorem tyz94 : tsz PP 94 = some 3 := by kernel_rfl
@[go_sem] theorem tya94 : tagg PP 94 = some true := by kernel_rfl
@[go_sem] theorem tyo94 : tzer PP 94 = some [.lit (.int .i64 0), .lit (.int .i64 0), .emp] := by kernel_rfl
@[go_sem] theorem tyf94_0 : tfld PP 94 0 = some (0, 1, false) := by kernel_rfl
@[go_sem] theorem tyf94_1 : tfld PP 94 1 = some (1, 1, false) := by kernel_rfl
@[go_sem] theorem tyf94_2 : tfld PP 94 2 = some (2, 1, false) := by kernel_rfl
@[go_sem] theorem typ94 : tplc PP 94 = some [(0, 1), (1, 1), (2, 1)] := by kernel_rfl
@[go_sem] theorem tyz98 : tsz PP 98 = some 1 := by kernel_rfl
@[go_sem] theorem tya98 : tagg PP 98 = some false := by kernel_rfl
@[go_sem] theorem tyb98 : tbt PP 98 = some 8 := by kernel_rfl
@[go_sem] theorem tyo98 : tzer PP 98 = some [.lit (.pointer none)] := by kernel_rfl
@[go_sem] theorem tyq98 : tptr PP 98 = true := by kernel_rfl
@[go_sem] theorem tyz99 : tsz PP 99 = some 1 := by kernel_rfl
@[go_sem] theorem tya99 : tagg PP 99 = some false := by kernel_rfl
@[go_sem] theorem tyb99 : tbt PP 99 = some 24 := by kernel_rfl
@[go_sem] theorem tyo99 : tzer PP 99 = some [.emp] := by kernel_rfl
@[go_sem] theorem tys99 : tsl PP 99 = some (98, 1) := by kernel_rfl
@[go_sem] theorem tyo121 : tzer PP 121 = some [.lit (.bool false), .emp, .emp] := by kernel_rfl
@[go_sem] theorem tyf121_0 : tfld PP 121 0 = some (0, 2, true) := by kernel_rfl
@[go_sem] theorem tyf121_1 : tfld PP 121 1 = some (2, 1, false) := by kernel_rfl
@[go_sem] theorem typ121 : tplc PP 121 = some [(0, 2), (2, 1)] := by kernel_rfl
@[go_sem] theorem tyi142 : tint PP 142 = some .u64 := by kernel_rfl
end Go.Proofs.Ytekhgkpnhenecaa
