/- part of the proof -/
import Derived.Test.YtgkimfncegbeaaaGreatTFc
import Derived.Test.YtgkimfncegbeaaaGreatProg
import Derived.KernelRfl
namespace Go.Proofs.YtgkimfncegbeaaaGreat
open Go Go.RowKit
set_option linter.unusedVariables false
set_option linter.unusedSimpArgs false
noncomputable abbrev PP := Tryz.prog
@[go_sem] theorem tyz3 : tsz PP 3 = some 1 := by kernel_rfl
@[go_sem] theorem tya3 : tagg PP 3 = some false := by kernel_rfl
@[go_sem] theorem tyb3 : tbt PP 3 = some 8 := by kernel_rfl
@[go_sem] theorem tyo3 : tzer PP 3 = some [.lit (.int .i64 0)] := by kernel_rfl
@[go_sem] theorem tyi3 : tint PP 3 = some .i64 := by kernel_rfl
@[go_sem] theorem tyz4 : tsz PP 4 = some 1 := by kernel_rfl
@[go_sem] theorem tya4 : tagg PP 4 = some false := by kernel_rfl
@[go_sem] theorem tyl4 : tbool PP 4 = true := by kernel_rfl
@[go_sem] theorem tyz22 : tsz PP 22 = some 1 := by kernel_rfl
@[go_sem] theorem tya22 : tagg PP 22 = some false := by kernel_rfl
@[go_sem] theorem tys22 : tsl PP 22 = some (65, 3) := by kernel_rfl
@[go_sem] theorem tyz24 : tsz PP 24 = some 3 := by kernel_rfl
@[go_sem] theorem tya24 : tagg PP 24 = some true := by kernel_rfl
@[go_sem] theorem tyf24_0 : tfld PP 24 0 = some (0, 1, false) := by kernel_rfl
@[go_sem] theorem tyf24_1 : tfld PP 24 1 = some (1, 1, false) := by kernel_rfl
@[go_sem] theorem tyf24_2 : tfld PP 24 2 = some (2, 1, false) := by kernel_rfl
@[go_sem] theorem tys26 : tsl PP 26 = some (29, 1) := by kernel_rfl
@[go_sem] theorem tyz29 : tsz PP 29 = some 1 := by kernel_rfl
@[go_sem] theorem tya29 : tagg PP 29 = some false := by kernel_rfl
@[go_sem] theorem tyb29 : tbt PP 29 = some 24 := by kernel_rfl
@[go_sem] theorem tyo29 : tzer PP 29 = some [.emp] := by kernel_rfl
@[go_sem] theorem tys29 : tsl PP 29 = some (47, 3) := by kernel_rfl
@[go_sem] theorem tyz31 : tsz PP 31 = some 3 := by kernel_rfl
@[go_sem] theorem tya31 : tagg PP 31 = some true := by kernel_rfl
@[go_sem] theorem tyo31 : tzer PP 31 = some [.lit (.int .i64 0), .lit (.int .i64 0), .emp] := by kernel_rfl
@[go_sem] theorem tyf31_0 : tfld PP 31 0 = some (0, 1, false) := by kernel_rfl
@[go_sem] theorem tyf31_1 : tfld PP 31 1 = some (1, 1, false) := by kernel_rfl
@[go_sem] theorem tyf31_2 : tfld PP 31 2 = some (2, 1, false) := by kernel_rfl
@[go_sem] theorem typ31 : tplc PP 31 = some [(0, 1), (1, 1), (2, 1)] := by kernel_rfl
@[go_sem] theorem tyz39 : tsz PP 39 = some 1 := by kernel_rfl
@[go_sem] theorem tya39 : tagg PP 39 = some false := by kernel_rfl
@[go_sem] theorem tys39 : tsl PP 39 = some (3, 1) := by kernel_rfl
@[go_sem] theorem tyz45 : tsz PP 45 = some 2 := by kernel_rfl
@[go_sem] theorem tya45 : tagg PP 45 = some true := by kernel_rfl
@[go_sem] theorem tyo45 : tzer PP 45 = some [.lit (.bool false), .emp] := by kernel_rfl
@[go_sem] theorem tyf45_0 : tfld PP 45 0 = some (0, 1, false) := by kernel_rfl
@[go_sem] theorem tyf45_1 : tfld PP 45 1 = some (1, 1, false) := by kernel_rfl
@[go_sem] theorem typ45 : tplc PP 45 = some [(0, 1), (1, 1)] := by kernel_rfl
@[go_sem] theorem tyz47 : tsz PP 47 = some 3 := by kernel_rfl
@[go_sem] theorem tya47 : tagg PP 47 = some true := by kernel_rfl
@[go_sem] theorem tyb47 : tbt PP 47 = some 56 := by kernel_rfl
@[go_sem] theorem tyo47 : tzer PP 47 = some [.lit (.bool false), .emp, .emp] := by kernel_rfl
@[go_sem] theorem tyf47_0 : tfld PP 47 0 = some (0, 2, true) := by kernel_rfl
@[go_sem] theorem tyf47_1 : tfld PP 47 1 = some (2, 1, false) := by kernel_rfl
@[go_sem] theorem typ47 : tplc PP 47 = some [(0, 2), (2, 1)] := by kernel_rfl
@[go_sem] theorem tyz52 : tsz PP 52 = some 1 := by kernel_rfl
@[go_sem] theorem tya52 : tagg PP 52 = some false := by kernel_rfl
@[go_sem] theorem tys52 : tsl PP 52 = some (75, 1) := by kernel_rfl
@[go_sem] theorem tyz54 : tsz PP 54 = some 3 := by kernel_rfl
@[go_sem] theorem tya54 : tagg PP 54 = some true := by kernel_rfl
@[go_sem] theorem tyo54 : tzer PP 54 = some [.lit (.int .i64 0), .lit (.int .i64 0), .emp] := by kernel_rfl
@[go_sem] theorem tyf54_0 : tfld PP 54 0 = some (0, 1, false) := by kernel_rfl
@[go_sem] theorem tyf54_1 : tfld PP 54 1 = some (1, 1, false) := by kernel_rfl
@[go_sem] theorem tyf54_2 : tfld PP 54 2 = some (2, 1, false) := by kernel_rfl
@[go_sem] theorem typ54 : tplc PP 54 = some [(0, 1), (1, 1), (2, 1)] := by kernel_rfl
@[go_sem] theorem tyz63 : tsz PP 63 = some 2 := by kernel_rfl
@[go_sem] theorem tya63 : tagg PP 63 = some true := by kernel_rfl
@[go_sem] theorem tyf63_0 : tfld PP 63 0 = some (0, 1, false) := by kernel_rfl
@[go_sem] theorem tyf63_1 : tfld PP 63 1 = some (1, 1, false) := by kernel_rfl
@[go_sem] theorem tyz65 : tsz PP 65 = some 3 := by kernel_rfl
@[go_sem] theorem tya65 : tagg PP 65 = some true := by kernel_rfl
@[go_sem] theorem tyf65_0 : tfld PP 65 0 = some (0, 2, true) := by kernel_rfl
@[go_sem] theorem tyf65_1 : tfld PP 65 1 = some (2, 1, false) := by kernel_rfl
@[go_sem] theorem tyz75 : tsz PP 75 = some 1 := by kernel_rfl
@[go_sem] theorem tya75 : tagg PP 75 = some false := by kernel_rfl
@[go_sem] theorem tyb75 : tbt PP 75 = some 24 := by kernel_rfl
@[go_sem] theorem tyo75 : tzer PP 75 = some [.emp] := by kernel_rfl
@[go_sem] theorem tys75 : tsl PP 75 = some (79, 1) := by kernel_rfl
@[go_sem] theorem tyz79 : tsz PP 79 = some 1 := by kernel_rfl
@[go_sem] theorem tya79 : tagg PP 79 = some false := by kernel_rfl
@[go_sem] theorem tyb79 : tbt PP 79 = some 8 := by kernel_rfl
@[go_sem] theorem tyo79 : tzer PP 79 = some [.lit (.pointer none)] := by kernel_rfl
@[go_sem] theorem tyq79 : tptr PP 79 = true := by kernel_rfl
@[go_sem] theorem tyz82 : tsz PP 82 = some 5 := by kernel_rfl
@[go_sem] theorem tya82 : tagg PP 82 = some true := by kernel_rfl
@[go_sem] theorem tyo82 : tzer PP 82 = some [.lit (.int .i64 0), .lit (.int .i64 0), .emp, .emp, .lit (.pointer none)] := by kernel_rfl
@[go_sem] theorem tyf82_0 : tfld PP 82 0 = some (0, 3, true) := by kernel_rfl
@[go_sem] theorem tyf82_1 : tfld PP 82 1 = some (3, 1, false) := by kernel_rfl
@[go_sem] theorem tyf82_2 : tfld PP 82 2 = some (4, 1, false) := by kernel_rfl
@[go_sem] theorem typ82 : tplc PP 82 = some [(0, 3), (3, 1), (4, 1)] := by kernel_rfl
@[go_sem] theorem tym85 : tmap PP 85 = some (3, 3) := by kernel_rfl
@[go_sem] theorem tyo105 : tzer PP 105 = some [.lit (.bool false), .emp, .emp] := by kernel_rfl
@[go_sem] theorem tyf105_0 : tfld PP 105 0 = some (0, 2, true) := by kernel_rfl
@[go_sem] theorem tyf105_1 : tfld PP 105 1 = some (2, 1, false) := by kernel_rfl
@[go_sem] theorem typ105 : tplc PP 105 = some [(0, 2), (2, 1)] := by kernel_rfl
@[go_sem] theorem tyi118 : tint PP 118 = some .u64 := by kernel_rfl
end Go.Proofs.YtgkimfncegbeaaaGreat
