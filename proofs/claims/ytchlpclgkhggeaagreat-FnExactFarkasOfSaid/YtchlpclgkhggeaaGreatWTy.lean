/- part of the proof -/
import Derived.Test.YtchlpclgkhggeaaGreatWFc
import Derived.Test.YtchlpclgkhggeaaGreatProg
import Derived.KernelRfl
namespace Go.Proofs.YtchlpclgkhggeaaGreat
open Go Go.RowKit
set_option linter.unusedVariables false
set_option linter.unusedSimpArgs false
noncomputable abbrev PP:=Tryz.prog
@[go_sem] theorem tyz3 : tsz PP 3 = some 1:=by kernel_rfl
@[go_sem] theorem tya3 : tagg PP 3 = some false:=by kernel_rfl
@[go_sem] theorem tyb3 : tbt PP 3 = some 8:=by kernel_rfl
@[go_sem] theorem tyo3 : tzer PP 3 = some [.lit (.int .i64 0)]:=by kernel_rfl
@[go_sem] theorem tyi3 : tint PP 3 = some .i64:=by kernel_rfl
@[go_sem] theorem tyz4 : tsz PP 4 = some 1:=by kernel_rfl
@[go_sem] theorem tya4 : tagg PP 4 = some false:=by kernel_rfl
@[go_sem] theorem tyb4 : tbt PP 4 = some 1:=by kernel_rfl
@[go_sem] theorem tyo4 : tzer PP 4 = some [.lit (.bool false)]:=by kernel_rfl
@[go_sem] theorem tyl4 : tbool PP 4 = true:=by kernel_rfl
@[go_sem] theorem tyz22 : tsz PP 22 = some 1:=by kernel_rfl
@[go_sem] theorem tya22 : tagg PP 22 = some false:=by kernel_rfl
@[go_sem] theorem tys22 : tsl PP 22 = some (3,1):=by kernel_rfl
@[go_sem] theorem tyz24 : tsz PP 24 = some 5:=by kernel_rfl
@[go_sem] theorem tya24 : tagg PP 24 = some true:=by kernel_rfl
@[go_sem] theorem Z8Z : tfld PP 24 0 = some (0,1,false):=by kernel_rfl
@[go_sem] theorem Z8Y : tfld PP 24 1 = some (1,1,false):=by kernel_rfl
@[go_sem] theorem Z8X : tfld PP 24 2 = some (2,1,false):=by kernel_rfl
@[go_sem] theorem Z8W : tfld PP 24 3 = some (3,1,false):=by kernel_rfl
@[go_sem] theorem Z8V : tfld PP 24 4 = some (4,1,false):=by kernel_rfl
@[go_sem] theorem tyz26 : tsz PP 26 = some 1:=by kernel_rfl
@[go_sem] theorem tya26 : tagg PP 26 = some false:=by kernel_rfl
@[go_sem] theorem tyb26 : tbt PP 26 = some 24:=by kernel_rfl
@[go_sem] theorem tyo26 : tzer PP 26 = some [.emp]:=by kernel_rfl
@[go_sem] theorem tys26 : tsl PP 26 = some (30,3):=by kernel_rfl
@[go_sem] theorem tyz28 : tsz PP 28 = some 2:=by kernel_rfl
@[go_sem] theorem tya28 : tagg PP 28 = some true:=by kernel_rfl
@[go_sem] theorem tyb28 : tbt PP 28 = some 32:=by kernel_rfl
@[go_sem] theorem tyo28 : tzer PP 28 = some [.lit (.bool false),.emp]:=by kernel_rfl
@[go_sem] theorem Z8U : tfld PP 28 0 = some (0,1,false):=by kernel_rfl
@[go_sem] theorem Z8T : tfld PP 28 1 = some (1,1,false):=by kernel_rfl
@[go_sem] theorem typ28 : tplc PP 28 = some [(0,1),(1,1)]:=by kernel_rfl
@[go_sem] theorem tyz30 : tsz PP 30 = some 3:=by kernel_rfl
@[go_sem] theorem tya30 : tagg PP 30 = some true:=by kernel_rfl
@[go_sem] theorem tyb30 : tbt PP 30 = some 56:=by kernel_rfl
@[go_sem] theorem tyo30 : tzer PP 30 = some [.lit (.bool false),.emp,.emp]:=by kernel_rfl
@[go_sem] theorem Z8S : tfld PP 30 0 = some (0,2,true):=by kernel_rfl
@[go_sem] theorem Z8R : tfld PP 30 1 = some (2,1,false):=by kernel_rfl
@[go_sem] theorem typ30 : tplc PP 30 = some [(0,2),(2,1)]:=by kernel_rfl
@[go_sem] theorem tyz32 : tsz PP 32 = some 5:=by kernel_rfl
@[go_sem] theorem tya32 : tagg PP 32 = some true:=by kernel_rfl
@[go_sem] theorem tyo32 : tzer PP 32 = some [.lit (.int .i64 0),.emp,.lit (.bool false),.emp,.emp]:=by kernel_rfl
@[go_sem] theorem Z8Q : tfld PP 32 0 = some (0,1,false):=by kernel_rfl
@[go_sem] theorem Z8P : tfld PP 32 1 = some (1,1,false):=by kernel_rfl
@[go_sem] theorem typ32 : tplc PP 32 = some [(0,1),(1,1),(2,3)]:=by kernel_rfl
@[go_sem] theorem tyz34 : tsz PP 34 = some 5:=by kernel_rfl
@[go_sem] theorem tya34 : tagg PP 34 = some true:=by kernel_rfl
@[go_sem] theorem tyo34 : tzer PP 34 = some [.lit (.int .i64 0),.lit (.int .i64 0),.emp,.emp,.emp]:=by kernel_rfl
@[go_sem] theorem Z8O : tfld PP 34 0 = some (0,1,false):=by kernel_rfl
@[go_sem] theorem Z8N : tfld PP 34 1 = some (1,1,false):=by kernel_rfl
@[go_sem] theorem Z8M : tfld PP 34 2 = some (2,1,false):=by kernel_rfl
@[go_sem] theorem Z8L : tfld PP 34 3 = some (3,1,false):=by kernel_rfl
@[go_sem] theorem Z8K : tfld PP 34 4 = some (4,1,false):=by kernel_rfl
@[go_sem] theorem typ34 : tplc PP 34 = some [(0,1),(1,1),(2,1),(3,1),(4,1)]:=by kernel_rfl
@[go_sem] theorem tys48 : tsl PP 48 = some (49,1):=by kernel_rfl
@[go_sem] theorem tyz49 : tsz PP 49 = some 1:=by kernel_rfl
@[go_sem] theorem tya49 : tagg PP 49 = some false:=by kernel_rfl
@[go_sem] theorem tyb49 : tbt PP 49 = some 8:=by kernel_rfl
@[go_sem] theorem tyo49 : tzer PP 49 = some [.lit (.pointer none)]:=by kernel_rfl
@[go_sem] theorem tyq49 : tptr PP 49 = true:=by kernel_rfl
@[go_sem] theorem tyz69 : tsz PP 69 = some 1:=by kernel_rfl
@[go_sem] theorem tya69 : tagg PP 69 = some false:=by kernel_rfl
@[go_sem] theorem tys69 : tsl PP 69 = some (26,1):=by kernel_rfl
@[go_sem] theorem tyo71 : tzer PP 71 = some [.lit (.int .i64 0),.emp,.emp,.emp]:=by kernel_rfl
@[go_sem] theorem Z8J : tfld PP 71 0 = some (0,1,false):=by kernel_rfl
@[go_sem] theorem Z8I : tfld PP 71 1 = some (1,1,false):=by kernel_rfl
@[go_sem] theorem Z8H : tfld PP 71 2 = some (2,1,false):=by kernel_rfl
@[go_sem] theorem Z8G : tfld PP 71 3 = some (3,1,false):=by kernel_rfl
@[go_sem] theorem typ71 : tplc PP 71 = some [(0,1),(1,1),(2,1),(3,1)]:=by kernel_rfl
@[go_sem] theorem tyz77 : tsz PP 77 = some 1:=by kernel_rfl
@[go_sem] theorem tya77 : tagg PP 77 = some false:=by kernel_rfl
@[go_sem] theorem tys77 : tsl PP 77 = some (83,1):=by kernel_rfl
@[go_sem] theorem tyz78 : tsz PP 78 = some 1:=by kernel_rfl
@[go_sem] theorem tya78 : tagg PP 78 = some false:=by kernel_rfl
@[go_sem] theorem tys78 : tsl PP 78 = some (4,1):=by kernel_rfl
@[go_sem] theorem tyo80 : tzer PP 80 = some [.emp,.lit (.bool false),.emp,.emp,.lit (.int .i64 0),.emp]:=by kernel_rfl
@[go_sem] theorem Z8F : tfld PP 80 0 = some (0,1,false):=by kernel_rfl
@[go_sem] theorem Z8E : tfld PP 80 1 = some (1,2,true):=by kernel_rfl
@[go_sem] theorem Z8D : tfld PP 80 2 = some (3,1,false):=by kernel_rfl
@[go_sem] theorem Z8C : tfld PP 80 3 = some (4,1,false):=by kernel_rfl
@[go_sem] theorem Z8B : tfld PP 80 4 = some (5,1,false):=by kernel_rfl
@[go_sem] theorem typ80 : tplc PP 80 = some [(0,1),(1,2),(3,1),(4,1),(5,1)]:=by kernel_rfl
@[go_sem] theorem tyz83 : tsz PP 83 = some 1:=by kernel_rfl
@[go_sem] theorem tya83 : tagg PP 83 = some false:=by kernel_rfl
@[go_sem] theorem tyb83 : tbt PP 83 = some 24:=by kernel_rfl
@[go_sem] theorem tyo83 : tzer PP 83 = some [.emp]:=by kernel_rfl
@[go_sem] theorem tys83 : tsl PP 83 = some (28,2):=by kernel_rfl
@[go_sem] theorem tyo85 : tzer PP 85 = some [.lit (.bool false),.emp,.emp]:=by kernel_rfl
@[go_sem] theorem Z8A : tfld PP 85 0 = some (0,2,true):=by kernel_rfl
@[go_sem] theorem Z8z : tfld PP 85 1 = some (2,1,false):=by kernel_rfl
@[go_sem] theorem typ85 : tplc PP 85 = some [(0,2),(2,1)]:=by kernel_rfl
@[go_sem] theorem tyi126 : tint PP 126 = some .u64:=by kernel_rfl
end Go.Proofs.YtchlpclgkhggeaaGreat