/- part of the proof -/
import Derived.Test.YtpmjjdhnacmphaaTFc
import Derived.Test.YtpmjjdhnacmphaaProg
import Derived.KernelRfl
namespace Go.Proofs.Ytpmjjdhnacmphaa
open Go Go.RowKit
set_option linter.unusedVariables false
set_option linter.unusedSimpArgs false
noncomputable abbrev PP := Try.prog
@[go_sem] theorem tyz3 : tsz PP 3 = some 1 := by kernel_rfl
@[go_sem] theorem tya3 : tagg PP 3 = some false := by kernel_rfl
@[go_sem] theorem tyb3 : tbt PP 3 = some 8 := by kernel_rfl
@[go_sem] theorem tyo3 : tzer PP 3 = some [.lit (.int .i64 0)] := by kernel_rfl
@[go_sem] theorem tyi3 : tint PP 3 = some .i64 := by kernel_rfl
@[go_sem] theorem tyz4 : tsz PP 4 = some 1 := by kernel_rfl
@[go_sem] theorem tya4 : tagg PP 4 = some false := by kernel_rfl
@[go_sem] theorem tyl4 : tbool PP 4 = true := by kernel_rfl
@[go_sem] theorem tyz5 : tsz PP 5 = some 1 := by kernel_rfl
@[go_sem] theorem tya5 : tagg PP 5 = some false := by kernel_rfl
@[go_sem] theorem tyi5 : tint PP 5 = some .u8 := by kernel_rfl
@[go_sem] theorem tyz22 : tsz PP 22 = some 1 := by kernel_rfl
@[go_sem] theorem tya22 : tagg PP 22 = some false := by kernel_rfl
@[go_sem] theorem tys22 : tsl PP 22 = some (3, 1) := by kernel_rfl
@[go_sem] theorem tyz32 : tsz PP 32 = some 1 := by kernel_rfl
@[go_sem] theorem tya32 : tagg PP 32 = some false := by kernel_rfl
@[go_sem] theorem tys32 : tsl PP 32 = some (5, 1) := by kernel_rfl
@[go_sem] theorem tyz33 : tsz PP 33 = some 1 := by kernel_rfl
@[go_sem] theorem tya33 : tagg PP 33 = some false := by kernel_rfl
@[go_sem] theorem tys33 : tsl PP 33 = some (40, 3) := by kernel_rfl
@[go_sem] theorem tyz35 : tsz PP 35 = some 3 := by kernel_rfl
@[go_sem] theorem tya35 : tagg PP 35 = some true := by kernel_rfl
@[go_sem] theorem tyo35 : tzer PP 35 = some [.lit (.int .i64 0), .lit (.int .i64 0), .emp] := by kernel_rfl
@[go_sem] theorem tyf35_0 : tfld PP 35 0 = some (0, 1, false) := by kernel_rfl
@[go_sem] theorem tyf35_1 : tfld PP 35 1 = some (1, 1, false) := by kernel_rfl
@[go_sem] theorem tyf35_2 : tfld PP 35 2 = some (2, 1, false) := by kernel_rfl
@[go_sem] theorem typ35 : tplc PP 35 = some [(0, 1), (1, 1), (2, 1)] := by kernel_rfl
@[go_sem] theorem tyz38 : tsz PP 38 = some 2 := by kernel_rfl
@[go_sem] theorem tya38 : tagg PP 38 = some true := by kernel_rfl
@[go_sem] theorem tyo38 : tzer PP 38 = some [.lit (.bool false), .emp] := by kernel_rfl
@[go_sem] theorem tyf38_0 : tfld PP 38 0 = some (0, 1, false) := by kernel_rfl
@[go_sem] theorem tyf38_1 : tfld PP 38 1 = some (1, 1, false) := by kernel_rfl
@[go_sem] theorem typ38 : tplc PP 38 = some [(0, 1), (1, 1)] := by kernel_rfl
@[go_sem] theorem tyz40 : tsz PP 40 = some 3 := by kernel_rfl
@[go_sem] theorem tya40 : tagg PP 40 = some true := by kernel_rfl
@[go_sem] theorem tyb40 : tbt PP 40 = some 56 := by kernel_rfl
@[go_sem] theorem tyo40 : tzer PP 40 = some [.lit (.bool false), .emp, .emp] := by kernel_rfl
@[go_sem] theorem tyf40_0 : tfld PP 40 0 = some (0, 2, true) := by kernel_rfl
@[go_sem] theorem tyf40_1 : tfld PP 40 1 = some (2, 1, false) := by kernel_rfl
@[go_sem] theorem typ40 : tplc PP 40 = some [(0, 2), (2, 1)] := by kernel_rfl
@[go_sem] theorem tyz76 : tsz PP 76 = some 1 := by kernel_rfl
@[go_sem] theorem tya76 : tagg PP 76 = some false := by kernel_rfl
@[go_sem] theorem tyb76 : tbt PP 76 = some 8 := by kernel_rfl
@[go_sem] theorem tyo76 : tzer PP 76 = some [.lit (.pointer none)] := by kernel_rfl
@[go_sem] theorem tyq76 : tptr PP 76 = true := by kernel_rfl
@[go_sem] theorem tyz78 : tsz PP 78 = some 1 := by kernel_rfl
@[go_sem] theorem tya78 : tagg PP 78 = some false := by kernel_rfl
@[go_sem] theorem tys78 : tsl PP 78 = some (83, 1) := by kernel_rfl
@[go_sem] theorem tyz80 : tsz PP 80 = some 3 := by kernel_rfl
@[go_sem] theorem tya80 : tagg PP 80 = some true := by kernel_rfl
@[go_sem] theorem tyo80 : tzer PP 80 = some [.lit (.int .i64 0), .lit (.int .i64 0), .emp] := by kernel_rfl
@[go_sem] theorem tyf80_0 : tfld PP 80 0 = some (0, 1, false) := by kernel_rfl
@[go_sem] theorem tyf80_1 : tfld PP 80 1 = some (1, 1, false) := by kernel_rfl
@[go_sem] theorem tyf80_2 : tfld PP 80 2 = some (2, 1, false) := by kernel_rfl
@[go_sem] theorem typ80 : tplc PP 80 = some [(0, 1), (1, 1), (2, 1)] := by kernel_rfl
@[go_sem] theorem tyz83 : tsz PP 83 = some 1 := by kernel_rfl
@[go_sem] theorem tya83 : tagg PP 83 = some false := by kernel_rfl
@[go_sem] theorem tyb83 : tbt PP 83 = some 24 := by kernel_rfl
@[go_sem] theorem tyo83 : tzer PP 83 = some [.emp] := by kernel_rfl
@[go_sem] theorem tys83 : tsl PP 83 = some (76, 1) := by kernel_rfl
@[go_sem] theorem tyo98 : tzer PP 98 = some [.emp, .lit (.int .i64 0), .lit (.int .i64 0)] := by kernel_rfl
@[go_sem] theorem tyf98_0 : tfld PP 98 0 = some (0, 1, false) := by kernel_rfl
@[go_sem] theorem tyf98_1 : tfld PP 98 1 = some (1, 1, false) := by kernel_rfl
@[go_sem] theorem tyf98_2 : tfld PP 98 2 = some (2, 1, false) := by kernel_rfl
@[go_sem] theorem typ98 : tplc PP 98 = some [(0, 1), (1, 1), (2, 1)] := by kernel_rfl
@[go_sem] theorem tyo110 : tzer PP 110 = some [.lit (.bool false), .emp, .emp] := by kernel_rfl
@[go_sem] theorem tyf110_0 : tfld PP 110 0 = some (0, 2, true) := by kernel_rfl
@[go_sem] theorem tyf110_1 : tfld PP 110 1 = some (2, 1, false) := by kernel_rfl
@[go_sem] theorem typ110 : tplc PP 110 = some [(0, 2), (2, 1)] := by kernel_rfl
@[go_sem] theorem tyi127 : tint PP 127 = some .u64 := by kernel_rfl
end Go.Proofs.Ytpmjjdhnacmphaa
