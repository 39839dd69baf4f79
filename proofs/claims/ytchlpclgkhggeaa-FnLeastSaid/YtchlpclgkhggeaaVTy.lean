/- part of the proof -/
import Derived.Test.YtchlpclgkhggeaaVFc
import Derived.Test.YtchlpclgkhggeaaProg
import Derived.KernelRfl
namespace Go.Proofs.Ytchlpclgkhggeaa
open Go Go.RowKit
set_option linter.unusedVariables false
set_option linter.unusedSimpArgs false
noncomputable abbrev PP:=Try.prog
@[go_sem] theorem tyz3 : tsz PP 3 = some 1:=by kernel_rfl
@[go_sem] theorem tya3 : tagg PP 3 = some false:=by kernel_rfl
@[go_sem] theorem tyb3 : tbt PP 3 = some 8:=by kernel_rfl
@[go_sem] theorem tyo3 : tzer PP 3 = some [.lit (.int .i64 0)]:=by kernel_rfl
@[go_sem] theorem tyi3 : tint PP 3 = some .i64:=by kernel_rfl
@[go_sem] theorem tyz4 : tsz PP 4 = some 1:=by kernel_rfl
@[go_sem] theorem tya4 : tagg PP 4 = some false:=by kernel_rfl
@[go_sem] theorem tyb4 : tbt PP 4 = some 1:=by kernel_rfl
@[go_sem] theorem tyo4 : tzer PP 4 = some [.lit (.bool false)]:=by kernel_rfl
@[go_sem] theorem tyl4 : tbool PP 4 = true:=by kernel_rfl
@[go_sem] theorem tyz5 : tsz PP 5 = some 1:=by kernel_rfl
@[go_sem] theorem tya5 : tagg PP 5 = some false:=by kernel_rfl
@[go_sem] theorem tyi5 : tint PP 5 = some .u8:=by kernel_rfl
@[go_sem] theorem tyz22 : tsz PP 22 = some 1:=by kernel_rfl
@[go_sem] theorem tya22 : tagg PP 22 = some false:=by kernel_rfl
@[go_sem] theorem tys22 : tsl PP 22 = some (3,1):=by kernel_rfl
@[go_sem] theorem tyz27 : tsz PP 27 = some 5:=by kernel_rfl
@[go_sem] theorem tya27 : tagg PP 27 = some true:=by kernel_rfl
@[go_sem] theorem tyo27 : tzer PP 27 = some [.lit (.int .i64 0),.lit (.int .i64 0),.emp,.emp,.emp]:=by kernel_rfl
@[go_sem] theorem Y7N : tfld PP 27 0 = some (0,1,false):=by kernel_rfl
@[go_sem] theorem Y7M : tfld PP 27 1 = some (1,1,false):=by kernel_rfl
@[go_sem] theorem Y7L : tfld PP 27 2 = some (2,1,false):=by kernel_rfl
@[go_sem] theorem Y7K : tfld PP 27 3 = some (3,1,false):=by kernel_rfl
@[go_sem] theorem Y7J : tfld PP 27 4 = some (4,1,false):=by kernel_rfl
@[go_sem] theorem typ27 : tplc PP 27 = some [(0,1),(1,1),(2,1),(3,1),(4,1)]:=by kernel_rfl
@[go_sem] theorem tyz31 : tsz PP 31 = some 1:=by kernel_rfl
@[go_sem] theorem tya31 : tagg PP 31 = some false:=by kernel_rfl
@[go_sem] theorem tys31 : tsl PP 31 = some (5,1):=by kernel_rfl
@[go_sem] theorem tyz33 : tsz PP 33 = some 1:=by kernel_rfl
@[go_sem] theorem tya33 : tagg PP 33 = some false:=by kernel_rfl
@[go_sem] theorem tys33 : tsl PP 33 = some (37,3):=by kernel_rfl
@[go_sem] theorem tyz35 : tsz PP 35 = some 2:=by kernel_rfl
@[go_sem] theorem tya35 : tagg PP 35 = some true:=by kernel_rfl
@[go_sem] theorem tyb35 : tbt PP 35 = some 32:=by kernel_rfl
@[go_sem] theorem tyo35 : tzer PP 35 = some [.lit (.bool false),.emp]:=by kernel_rfl
@[go_sem] theorem Y7I : tfld PP 35 0 = some (0,1,false):=by kernel_rfl
@[go_sem] theorem Y7H : tfld PP 35 1 = some (1,1,false):=by kernel_rfl
@[go_sem] theorem typ35 : tplc PP 35 = some [(0,1),(1,1)]:=by kernel_rfl
@[go_sem] theorem tyz37 : tsz PP 37 = some 3:=by kernel_rfl
@[go_sem] theorem tya37 : tagg PP 37 = some true:=by kernel_rfl
@[go_sem] theorem tyb37 : tbt PP 37 = some 56:=by kernel_rfl
@[go_sem] theorem tyo37 : tzer PP 37 = some [.lit (.bool false),.emp,.emp]:=by kernel_rfl
@[go_sem] theorem Y7G : tfld PP 37 0 = some (0,2,true):=by kernel_rfl
@[go_sem] theorem Y7F : tfld PP 37 1 = some (2,1,false):=by kernel_rfl
@[go_sem] theorem typ37 : tplc PP 37 = some [(0,2),(2,1)]:=by kernel_rfl
@[go_sem] theorem tyz39 : tsz PP 39 = some 5:=by kernel_rfl
@[go_sem] theorem tya39 : tagg PP 39 = some true:=by kernel_rfl
@[go_sem] theorem tyo39 : tzer PP 39 = some [.lit (.int .i64 0),.emp,.lit (.bool false),.emp,.emp]:=by kernel_rfl
@[go_sem] theorem Y7E : tfld PP 39 0 = some (0,1,false):=by kernel_rfl
@[go_sem] theorem Y7D : tfld PP 39 1 = some (1,1,false):=by kernel_rfl
@[go_sem] theorem Y7C : tfld PP 39 2 = some (2,3,true):=by kernel_rfl
@[go_sem] theorem typ39 : tplc PP 39 = some [(0,1),(1,1),(2,3)]:=by kernel_rfl
@[go_sem] theorem tys72 : tsl PP 72 = some (73,1):=by kernel_rfl
@[go_sem] theorem tyz73 : tsz PP 73 = some 1:=by kernel_rfl
@[go_sem] theorem tya73 : tagg PP 73 = some false:=by kernel_rfl
@[go_sem] theorem tyb73 : tbt PP 73 = some 8:=by kernel_rfl
@[go_sem] theorem tyo73 : tzer PP 73 = some [.lit (.pointer none)]:=by kernel_rfl
@[go_sem] theorem tyq73 : tptr PP 73 = true:=by kernel_rfl
@[go_sem] theorem tyz107 : tsz PP 107 = some 1:=by kernel_rfl
@[go_sem] theorem tya107 : tagg PP 107 = some false:=by kernel_rfl
@[go_sem] theorem tys107 : tsl PP 107 = some (4,1):=by kernel_rfl
@[go_sem] theorem tyz108 : tsz PP 108 = some 1:=by kernel_rfl
@[go_sem] theorem tya108 : tagg PP 108 = some false:=by kernel_rfl
@[go_sem] theorem tys108 : tsl PP 108 = some (111,1):=by kernel_rfl
@[go_sem] theorem tyo110 : tzer PP 110 = some [.emp,.lit (.bool false),.emp,.emp,.lit (.int .i64 0),.emp]:=by kernel_rfl
@[go_sem] theorem Y5v : tfld PP 110 0 = some (0,1,false):=by kernel_rfl
@[go_sem] theorem Y5u : tfld PP 110 1 = some (1,2,true):=by kernel_rfl
@[go_sem] theorem Y5t : tfld PP 110 2 = some (3,1,false):=by kernel_rfl
@[go_sem] theorem Y5s : tfld PP 110 3 = some (4,1,false):=by kernel_rfl
@[go_sem] theorem Y5r : tfld PP 110 4 = some (5,1,false):=by kernel_rfl
@[go_sem] theorem typ110 : tplc PP 110 = some [(0,1),(1,2),(3,1),(4,1),(5,1)]:=by kernel_rfl
@[go_sem] theorem tyz111 : tsz PP 111 = some 1:=by kernel_rfl
@[go_sem] theorem tya111 : tagg PP 111 = some false:=by kernel_rfl
@[go_sem] theorem tyb111 : tbt PP 111 = some 24:=by kernel_rfl
@[go_sem] theorem tyo111 : tzer PP 111 = some [.emp]:=by kernel_rfl
@[go_sem] theorem tys111 : tsl PP 111 = some (35,2):=by kernel_rfl
@[go_sem] theorem tyo115 : tzer PP 115 = some [.emp,.lit (.int .i64 0),.lit (.int .i64 0)]:=by kernel_rfl
@[go_sem] theorem Y5q : tfld PP 115 0 = some (0,1,false):=by kernel_rfl
@[go_sem] theorem Y5p : tfld PP 115 1 = some (1,1,false):=by kernel_rfl
@[go_sem] theorem Y5o : tfld PP 115 2 = some (2,1,false):=by kernel_rfl
@[go_sem] theorem typ115 : tplc PP 115 = some [(0,1),(1,1),(2,1)]:=by kernel_rfl
@[go_sem] theorem tyo118 : tzer PP 118 = some [.lit (.bool false),.emp,.emp]:=by kernel_rfl
@[go_sem] theorem Y5n : tfld PP 118 0 = some (0,2,true):=by kernel_rfl
@[go_sem] theorem Y5m : tfld PP 118 1 = some (2,1,false):=by kernel_rfl
@[go_sem] theorem typ118 : tplc PP 118 = some [(0,2),(2,1)]:=by kernel_rfl
@[go_sem] theorem tyi136 : tint PP 136 = some .u64:=by kernel_rfl
end Go.Proofs.Ytchlpclgkhggeaa