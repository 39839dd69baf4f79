/- part of the proof -/
import Derived.Test.YtgkimfncegbeaaaTFc
import Derived.Test.YtgkimfncegbeaaaProg
import Derived.KernelRfl
namespace Go.Proofs.Ytgkimfncegbeaaa
open Go Go.RowKit
set_option linter.unusedVariables false
set_option linter.unusedSimpArgs false
noncomputable abbrev PP := Try.prog
@[go_sem] theorem tyz3 : tsz PP 3 = some 1 := by kernel_rfl
@[go_sem] theorem tya3 : tagg PP 3 = some false := by kernel_rfl
@[go_sem] theorem tyb3 : tbt PP 3 = some 8 := by kernel_rfl
@[go_sem] theorem tyo3 : tzer PP 3 = some [.lit (.int .i64 0)] := by kernel_rfl
@[go_sem] theorem tyi3 : tint PP 3 = some .i64 := by kernel_rfl
@[go_sem] theorem tyz4 : tsz PP 4 = some 1 := by kernel_rfl
@[go_sem] theorem tya4 : tagg PP 4 = some false := by kernel_rfl
@[go_sem] theorem tyl4 : tbool PP 4 = true := by kernel_rfl
@[go_sem] theorem tyz5 : tsz PP 5 = some 1 := by kernel_rfl
@[go_sem] theorem tya5 : tagg PP 5 = some false := by kernel_rfl
@[go_sem] theorem tyi5 : tint PP 5 = some .u8 := by kernel_rfl
@[go_sem] theorem tyz22 : tsz PP 22 = some 1 := by kernel_rfl
@[go_sem] theorem tya22 : tagg PP 22 = some false := by kernel_rfl
@[go_sem] theorem tys22 : tsl PP 22 = some (5, 1) := by kernel_rfl
@[go_sem] theorem tyz23 : tsz PP 23 = some 1 := by kernel_rfl
@[go_sem] theorem tya23 : tagg PP 23 = some false := by kernel_rfl
@[go_sem] theorem tyb23 : tbt PP 23 = some 24 := by kernel_rfl
@[go_sem] theorem tyo23 : tzer PP 23 = some [.emp] := by kernel_rfl
@[go_sem] theorem tys23 : tsl PP 23 = some (66, 3) := by kernel_rfl
@[go_sem] theorem tyz25 : tsz PP 25 = some 3 := by kernel_rfl
@[go_sem] theorem tya25 : tagg PP 25 = some true := by kernel_rfl
@[go_sem] theorem tyo25 : tzer PP 25 = some [.lit (.int .i64 0), .lit (.int .i64 0), .emp] := by kernel_rfl
@[go_sem] theorem tyf25_0 : tfld PP 25 0 = some (0, 1, false) := by kernel_rfl
@[go_sem] theorem tyf25_1 : tfld PP 25 1 = some (1, 1, false) := by kernel_rfl
@[go_sem] theorem tyf25_2 : tfld PP 25 2 = some (2, 1, false) := by kernel_rfl
@[go_sem] theorem typ25 : tplc PP 25 = some [(0, 1), (1, 1), (2, 1)] := by kernel_rfl
@[go_sem] theorem tys27 : tsl PP 27 = some (23, 1) := by kernel_rfl
@[go_sem] theorem tyz30 : tsz PP 30 = some 1 := by kernel_rfl
@[go_sem] theorem tya30 : tagg PP 30 = some false := by kernel_rfl
@[go_sem] theorem tys30 : tsl PP 30 = some (3, 1) := by kernel_rfl
@[go_sem] theorem tyz42 : tsz PP 42 = some 1 := by kernel_rfl
@[go_sem] theorem tya42 : tagg PP 42 = some false := by kernel_rfl
@[go_sem] theorem tys42 : tsl PP 42 = some (57, 1) := by kernel_rfl
@[go_sem] theorem tyz44 : tsz PP 44 = some 3 := by kernel_rfl
@[go_sem] theorem tya44 : tagg PP 44 = some true := by kernel_rfl
@[go_sem] theorem tyo44 : tzer PP 44 = some [.lit (.int .i64 0), .lit (.int .i64 0), .emp] := by kernel_rfl
@[go_sem] theorem tyf44_0 : tfld PP 44 0 = some (0, 1, false) := by kernel_rfl
@[go_sem] theorem tyf44_1 : tfld PP 44 1 = some (1, 1, false) := by kernel_rfl
@[go_sem] theorem tyf44_2 : tfld PP 44 2 = some (2, 1, false) := by kernel_rfl
@[go_sem] theorem typ44 : tplc PP 44 = some [(0, 1), (1, 1), (2, 1)] := by kernel_rfl
@[go_sem] theorem tyz50 : tsz PP 50 = some 1 := by kernel_rfl
@[go_sem] theorem tya50 : tagg PP 50 = some false := by kernel_rfl
@[go_sem] theorem tyb50 : tbt PP 50 = some 8 := by kernel_rfl
@[go_sem] theorem tyo50 : tzer PP 50 = some [.lit (.pointer none)] := by kernel_rfl
@[go_sem] theorem tyq50 : tptr PP 50 = true := by kernel_rfl
@[go_sem] theorem tyz52 : tsz PP 52 = some 5 := by kernel_rfl
@[go_sem] theorem tya52 : tagg PP 52 = some true := by kernel_rfl
@[go_sem] theorem tyo52 : tzer PP 52 = some [.lit (.int .i64 0), .lit (.int .i64 0), .emp, .emp, .lit (.pointer none)] := by kernel_rfl
@[go_sem] theorem tyf52_0 : tfld PP 52 0 = some (0, 3, true) := by kernel_rfl
@[go_sem] theorem tyf52_1 : tfld PP 52 1 = some (3, 1, false) := by kernel_rfl
@[go_sem] theorem tyf52_2 : tfld PP 52 2 = some (4, 1, false) := by kernel_rfl
@[go_sem] theorem typ52 : tplc PP 52 = some [(0, 3), (3, 1), (4, 1)] := by kernel_rfl
@[go_sem] theorem tyz57 : tsz PP 57 = some 1 := by kernel_rfl
@[go_sem] theorem tya57 : tagg PP 57 = some false := by kernel_rfl
@[go_sem] theorem tyb57 : tbt PP 57 = some 24 := by kernel_rfl
@[go_sem] theorem tyo57 : tzer PP 57 = some [.emp] := by kernel_rfl
@[go_sem] theorem tys57 : tsl PP 57 = some (50, 1) := by kernel_rfl
@[go_sem] theorem tyz64 : tsz PP 64 = some 2 := by kernel_rfl
@[go_sem] theorem tya64 : tagg PP 64 = some true := by kernel_rfl
@[go_sem] theorem tyo64 : tzer PP 64 = some [.lit (.bool false), .emp] := by kernel_rfl
@[go_sem] theorem tyf64_0 : tfld PP 64 0 = some (0, 1, false) := by kernel_rfl
@[go_sem] theorem tyf64_1 : tfld PP 64 1 = some (1, 1, false) := by kernel_rfl
@[go_sem] theorem typ64 : tplc PP 64 = some [(0, 1), (1, 1)] := by kernel_rfl
@[go_sem] theorem tyz66 : tsz PP 66 = some 3 := by kernel_rfl
@[go_sem] theorem tya66 : tagg PP 66 = some true := by kernel_rfl
@[go_sem] theorem tyb66 : tbt PP 66 = some 56 := by kernel_rfl
@[go_sem] theorem tyo66 : tzer PP 66 = some [.lit (.bool false), .emp, .emp] := by kernel_rfl
@[go_sem] theorem tyf66_0 : tfld PP 66 0 = some (0, 2, true) := by kernel_rfl
@[go_sem] theorem tyf66_1 : tfld PP 66 1 = some (2, 1, false) := by kernel_rfl
@[go_sem] theorem typ66 : tplc PP 66 = some [(0, 2), (2, 1)] := by kernel_rfl
@[go_sem] theorem tym73 : tmap PP 73 = some (3, 3) := by kernel_rfl
@[go_sem] theorem tyo83 : tzer PP 83 = some [.emp, .lit (.int .i64 0), .lit (.int .i64 0)] := by kernel_rfl
@[go_sem] theorem tyf83_0 : tfld PP 83 0 = some (0, 1, false) := by kernel_rfl
@[go_sem] theorem tyf83_1 : tfld PP 83 1 = some (1, 1, false) := by kernel_rfl
@[go_sem] theorem tyf83_2 : tfld PP 83 2 = some (2, 1, false) := by kernel_rfl
@[go_sem] theorem typ83 : tplc PP 83 = some [(0, 1), (1, 1), (2, 1)] := by kernel_rfl
@[go_sem] theorem tyo87 : tzer PP 87 = some [.lit (.bool false), .emp, .emp] := by kernel_rfl
@[go_sem] theorem tyf87_0 : tfld PP 87 0 = some (0, 2, true) := by kernel_rfl
@[go_sem] theorem tyf87_1 : tfld PP 87 1 = some (2, 1, false) := by kernel_rfl
@[go_sem] theorem typ87 : tplc PP 87 = some [(0, 2), (2, 1)] := by kernel_rfl
@[go_sem] theorem tyi100 : tint PP 100 = some .u64 := by kernel_rfl
end Go.Proofs.Ytgkimfncegbeaaa
