/- part of the proof -/
import Derived.Test.YtkllbcfhkhfniaaGreatTFc
import Derived.Test.YtkllbcfhkhfniaaGreatProg
import Derived.KernelRfl
namespace Go.Proofs.YtkllbcfhkhfniaaGreat
open Go Go.RowKit
set_option linter.unusedVariables false
set_option linter.unusedSimpArgs false
noncomputable abbrev PP := Tryz.prog
@[go_sem] theorem tyz3 : tsz PP 3 = some 1 := by kernel_rfl
@[go_sem] theorem tya3 : tagg PP 3 = some false := by kernel_rfl
@[go_sem] theorem tyb3 : tbt PP 3 = some 8 := by kernel_rfl
@[go_sem] theorem tyo3 : tzer PP 3 = some [.lit (.int .i64 0)] := by kernel_rfl
@[go_sem] theorem tyi3 : tint PP 3 = some .i64 := by kernel_rfl
@[go_sem] theorem tyz4 : tsz PP 4 = some 1 := by kernel_rfl
@[go_sem] theorem tya4 : tagg PP 4 = some false := by kernel_rfl
@[go_sem] theorem tyl4 : tbool PP 4 = true := by kernel_rfl
@[go_sem] theorem tyz22 : tsz PP 22 = some 1 := by kernel_rfl
@[go_sem] theorem tya22 : tagg PP 22 = some false := by kernel_rfl
@[go_sem] theorem tys22 : tsl PP 22 = some (54, 3) := by kernel_rfl
@[go_sem] theorem tyz24 : tsz PP 24 = some 3 := by kernel_rfl
@[go_sem] theorem tya24 : tagg PP 24 = some true := by kernel_rfl
@[go_sem] theorem tyf24_0 : tfld PP 24 0 = some (0, 1, false) := by kernel_rfl
@[go_sem] theorem tyf24_1 : tfld PP 24 1 = some (1, 1, false) := by kernel_rfl
@[go_sem] theorem tyf24_2 : tfld PP 24 2 = some (2, 1, false) := by kernel_rfl
@[go_sem] theorem tyz27 : tsz PP 27 = some 1 := by kernel_rfl
@[go_sem] theorem tya27 : tagg PP 27 = some false := by kernel_rfl
@[go_sem] theorem tys27 : tsl PP 27 = some (43, 3) := by kernel_rfl
@[go_sem] theorem tyz31 : tsz PP 31 = some 3 := by kernel_rfl
@[go_sem] theorem tya31 : tagg PP 31 = some true := by kernel_rfl
@[go_sem] theorem tyo31 : tzer PP 31 = some [.lit (.int .i64 0), .lit (.int .i64 0), .emp] := by kernel_rfl
@[go_sem] theorem tyf31_0 : tfld PP 31 0 = some (0, 1, false) := by kernel_rfl
@[go_sem] theorem tyf31_1 : tfld PP 31 1 = some (1, 1, false) := by kernel_rfl
@[go_sem] theorem tyf31_2 : tfld PP 31 2 = some (2, 1, false) := by kernel_rfl
@[go_sem] theorem typ31 : tplc PP 31 = some [(0, 1), (1, 1), (2, 1)] := by kernel_rfl
@[go_sem] theorem tyz39 : tsz PP 39 = some 1 := by kernel_rfl
@[go_sem] theorem tya39 : tagg PP 39 = some false := by kernel_rfl
@[go_sem] theorem tys39 : tsl PP 39 = some (3, 1) := by kernel_rfl
@[go_sem] theorem tyz41 : tsz PP 41 = some 2 := by kernel_rfl
@[go_sem] theorem tya41 : tagg PP 41 = some true := by kernel_rfl
@[go_sem] theorem tyo41 : tzer PP 41 = some [.lit (.bool false), .emp] := by kernel_rfl
@[go_sem] theorem tyf41_0 : tfld PP 41 0 = some (0, 1, false) := by kernel_rfl
@[go_sem] theorem tyf41_1 : tfld PP 41 1 = some (1, 1, false) := by kernel_rfl
@[go_sem] theorem typ41 : tplc PP 41 = some [(0, 1), (1, 1)] := by kernel_rfl
@[go_sem] theorem tyz43 : tsz PP 43 = some 3 := by kernel_rfl
@[go_sem] theorem tya43 : tagg PP 43 = some true := by kernel_rfl
@[go_sem] theorem tyb43 : tbt PP 43 = some 56 := by kernel_rfl
@[go_sem] theorem tyo43 : tzer PP 43 = some [.lit (.bool false), .emp, .emp] := by kernel_rfl
@[go_sem] theorem tyf43_0 : tfld PP 43 0 = some (0, 2, true) := by kernel_rfl
@[go_sem] theorem tyf43_1 : tfld PP 43 1 = some (2, 1, false) := by kernel_rfl
@[go_sem] theorem typ43 : tplc PP 43 = some [(0, 2), (2, 1)] := by kernel_rfl
@[go_sem] theorem tyz52 : tsz PP 52 = some 2 := by kernel_rfl
@[go_sem] theorem tya52 : tagg PP 52 = some true := by kernel_rfl
@[go_sem] theorem tyf52_0 : tfld PP 52 0 = some (0, 1, false) := by kernel_rfl
@[go_sem] theorem tyf52_1 : tfld PP 52 1 = some (1, 1, false) := by kernel_rfl
@[go_sem] theorem tyz54 : tsz PP 54 = some 3 := by kernel_rfl
@[go_sem] theorem tya54 : tagg PP 54 = some true := by kernel_rfl
@[go_sem] theorem tyf54_0 : tfld PP 54 0 = some (0, 2, true) := by kernel_rfl
@[go_sem] theorem tyf54_1 : tfld PP 54 1 = some (2, 1, false) := by kernel_rfl
@[go_sem] theorem tyz60 : tsz PP 60 = some 1 := by kernel_rfl
@[go_sem] theorem tya60 : tagg PP 60 = some false := by kernel_rfl
@[go_sem] theorem tys60 : tsl PP 60 = some (65, 1) := by kernel_rfl
@[go_sem] theorem tyz62 : tsz PP 62 = some 3 := by kernel_rfl
@[go_sem] theorem tya62 : tagg PP 62 = some true := by kernel_rfl
@[go_sem] theorem tyo62 : tzer PP 62 = some [.lit (.int .i64 0), .lit (.int .i64 0), .emp] := by kernel_rfl
@[go_sem] theorem tyf62_0 : tfld PP 62 0 = some (0, 1, false) := by kernel_rfl
@[go_sem] theorem tyf62_1 : tfld PP 62 1 = some (1, 1, false) := by kernel_rfl
@[go_sem] theorem tyf62_2 : tfld PP 62 2 = some (2, 1, false) := by kernel_rfl
@[go_sem] theorem typ62 : tplc PP 62 = some [(0, 1), (1, 1), (2, 1)] := by kernel_rfl
@[go_sem] theorem tyz65 : tsz PP 65 = some 1 := by kernel_rfl
@[go_sem] theorem tya65 : tagg PP 65 = some false := by kernel_rfl
@[go_sem] theorem tyb65 : tbt PP 65 = some 24 := by kernel_rfl
@[go_sem] theorem tyo65 : tzer PP 65 = some [.emp] := by kernel_rfl
@[go_sem] theorem tys65 : tsl PP 65 = some (74, 1) := by kernel_rfl
@[go_sem] theorem tyz74 : tsz PP 74 = some 1 := by kernel_rfl
@[go_sem] theorem tya74 : tagg PP 74 = some false := by kernel_rfl
@[go_sem] theorem tyb74 : tbt PP 74 = some 8 := by kernel_rfl
@[go_sem] theorem tyo74 : tzer PP 74 = some [.lit (.pointer none)] := by kernel_rfl
@[go_sem] theorem tyq74 : tptr PP 74 = true := by kernel_rfl
@[go_sem] theorem tyo102 : tzer PP 102 = some [.lit (.bool false), .emp, .emp] := by kernel_rfl
@[go_sem] theorem tyf102_0 : tfld PP 102 0 = some (0, 2, true) := by kernel_rfl
@[go_sem] theorem tyf102_1 : tfld PP 102 1 = some (2, 1, false) := by kernel_rfl
@[go_sem] theorem typ102 : tplc PP 102 = some [(0, 2), (2, 1)] := by kernel_rfl
@[go_sem] theorem tyi119 : tint PP 119 = some .u64 := by kernel_rfl
end Go.Proofs.YtkllbcfhkhfniaaGreat
