/- part of the proof -/
import Derived.Test.YtikmepdhpffdoaaGreatTFc
import Derived.Test.YtikmepdhpffdoaaGreatProg
import Derived.KernelRfl
namespace Go.Proofs.YtikmepdhpffdoaaGreat
open Go Go.RowKit
set_option linter.unusedVariables false
set_option linter.unusedSimpArgs false
noncomputable abbrev PP := Tryz.prog
@[go_sem] theorem tyz3 : tsz PP 3 = some 1 := by kernel_rfl
@[go_sem] theorem tya3 : tagg PP 3 = some false := by kernel_rfl
@[go_sem] theorem tyb3 : tbt PP 3 = some 8 := by kernel_rfl
@[go_sem] theorem tyo3 : tzer PP 3 = some [.lit (.int .i64 0)] := by kernel_rfl
@[go_sem] theorem tyi3 : tint PP 3 = some .i64 := by kernel_rfl
@[go_sem] theorem tyz4 : tsz PP 4 = some 1 := by kernel_rfl
@[go_sem] theorem tya4 : tagg PP 4 = some false := by kernel_rfl
@[go_sem] theorem tyl4 : tbool PP 4 = true := by kernel_rfl
@[go_sem] theorem tyz5 : tsz PP 5 = some 1 := by kernel_rfl
@[go_sem] theorem tya5 : tagg PP 5 = some false := by kernel_rfl
@[go_sem] theorem tyi5 : tint PP 5 = some .u8 := by kernel_rfl
@[go_sem] theorem tyz22 : tsz PP 22 = some 1 := by kernel_rfl
@[go_sem] theorem tya22 : tagg PP 22 = some false := by kernel_rfl
@[go_sem] theorem tys22 : tsl PP 22 = some (5, 1) := by kernel_rfl
@[go_sem] theorem tyz23 : tsz PP 23 = some 1 := by kernel_rfl
@[go_sem] theorem tya23 : tagg PP 23 = some false := by kernel_rfl
@[go_sem] theorem tys23 : tsl PP 23 = some (34, 3) := by kernel_rfl
@[go_sem] theorem tyz25 : tsz PP 25 = some 3 := by kernel_rfl
@[go_sem] theorem tya25 : tagg PP 25 = some true := by kernel_rfl
@[go_sem] theorem tyo25 : tzer PP 25 = some [.lit (.int .i64 0), .lit (.int .i64 0), .emp] := by kernel_rfl
@[go_sem] theorem tyf25_0 : tfld PP 25 0 = some (0, 1, false) := by kernel_rfl
@[go_sem] theorem tyf25_1 : tfld PP 25 1 = some (1, 1, false) := by kernel_rfl
@[go_sem] theorem tyf25_2 : tfld PP 25 2 = some (2, 1, false) := by kernel_rfl
@[go_sem] theorem typ25 : tplc PP 25 = some [(0, 1), (1, 1), (2, 1)] := by kernel_rfl
@[go_sem] theorem tyz30 : tsz PP 30 = some 1 := by kernel_rfl
@[go_sem] theorem tya30 : tagg PP 30 = some false := by kernel_rfl
@[go_sem] theorem tys30 : tsl PP 30 = some (3, 1) := by kernel_rfl
@[go_sem] theorem tyz32 : tsz PP 32 = some 2 := by kernel_rfl
@[go_sem] theorem tya32 : tagg PP 32 = some true := by kernel_rfl
@[go_sem] theorem tyo32 : tzer PP 32 = some [.lit (.bool false), .emp] := by kernel_rfl
@[go_sem] theorem tyf32_0 : tfld PP 32 0 = some (0, 1, false) := by kernel_rfl
@[go_sem] theorem tyf32_1 : tfld PP 32 1 = some (1, 1, false) := by kernel_rfl
@[go_sem] theorem typ32 : tplc PP 32 = some [(0, 1), (1, 1)] := by kernel_rfl
@[go_sem] theorem tyz34 : tsz PP 34 = some 3 := by kernel_rfl
@[go_sem] theorem tya34 : tagg PP 34 = some true := by kernel_rfl
@[go_sem] theorem tyb34 : tbt PP 34 = some 56 := by kernel_rfl
@[go_sem] theorem tyo34 : tzer PP 34 = some [.lit (.bool false), .emp, .emp] := by kernel_rfl
@[go_sem] theorem tyf34_0 : tfld PP 34 0 = some (0, 2, true) := by kernel_rfl
@[go_sem] theorem tyf34_1 : tfld PP 34 1 = some (2, 1, false) := by kernel_rfl
@[go_sem] theorem typ34 : tplc PP 34 = some [(0, 2), (2, 1)] := by kernel_rfl
@[go_sem] theorem tyz99 : tsz PP 99 = some 1 := by kernel_rfl
@[go_sem] theorem tya99 : tagg PP 99 = some false := by kernel_rfl
@[go_sem] theorem tys99 : tsl PP 99 = some (114, 1) := by kernel_rfl
@[go_sem] theorem tyz101 : tsz PP 101 = some 3 := by kernel_rfl
@[go_sem] theorem tya101 : tagg PP 101 = some true := by kernel_rfl
@[go_sem] theorem tyo101 : tzer PP 101 = some [.lit (.int .i64 0), .lit (.int .i64 0), .emp] := by kernel_rfl
@[go_sem] theorem tyf101_0 : tfld PP 101 0 = some (0, 1, false) := by kernel_rfl
@[go_sem] theorem tyf101_1 : tfld PP 101 1 = some (1, 1, false) := by kernel_rfl
@[go_sem] theorem tyf101_2 : tfld PP 101 2 = some (2, 1, false) := by kernel_rfl
@[go_sem] theorem typ101 : tplc PP 101 = some [(0, 1), (1, 1), (2, 1)] := by kernel_rfl
@[go_sem] theorem tyz107 : tsz PP 107 = some 1 := by kernel_rfl
@[go_sem] theorem tya107 : tagg PP 107 = some false := by kernel_rfl
@[go_sem] theorem tyb107 : tbt PP 107 = some 8 := by kernel_rfl
@[go_sem] theorem tyo107 : tzer PP 107 = some [.lit (.pointer none)] := by kernel_rfl
@[go_sem] theorem tyq107 : tptr PP 107 = true := by kernel_rfl
@[go_sem] theorem tyz114 : tsz PP 114 = some 1 := by kernel_rfl
@[go_sem] theorem tya114 : tagg PP 114 = some false := by kernel_rfl
@[go_sem] theorem tyb114 : tbt PP 114 = some 24 := by kernel_rfl
@[go_sem] theorem tyo114 : tzer PP 114 = some [.emp] := by kernel_rfl
@[go_sem] theorem tys114 : tsl PP 114 = some (107, 1) := by kernel_rfl
@[go_sem] theorem tyo158 : tzer PP 158 = some [.lit (.bool false), .emp, .emp] := by kernel_rfl
@[go_sem] theorem tyf158_0 : tfld PP 158 0 = some (0, 2, true) := by kernel_rfl
@[go_sem] theorem tyf158_1 : tfld PP 158 1 = some (2, 1, false) := by kernel_rfl
@[go_sem] theorem typ158 : tplc PP 158 = some [(0, 2), (2, 1)] := by kernel_rfl
@[go_sem] theorem tyo161 : tzer PP 161 = some [.emp, .lit (.int .i64 0), .lit (.int .i64 0)] := by kernel_rfl
@[go_sem] theorem tyf161_0 : tfld PP 161 0 = some (0, 1, false) := by kernel_rfl
@[go_sem] theorem tyf161_1 : tfld PP 161 1 = some (1, 1, false) := by kernel_rfl
@[go_sem] theorem tyf161_2 : tfld PP 161 2 = some (2, 1, false) := by kernel_rfl
@[go_sem] theorem typ161 : tplc PP 161 = some [(0, 1), (1, 1), (2, 1)] := by kernel_rfl
@[go_sem] theorem tyi198 : tint PP 198 = some .u64 := by kernel_rfl
end Go.Proofs.YtikmepdhpffdoaaGreat
