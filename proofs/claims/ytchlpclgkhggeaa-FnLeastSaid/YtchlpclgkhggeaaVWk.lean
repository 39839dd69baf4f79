/- part of the proof -/
import Derived.Test.YtchlpclgkhggeaaVTy
import Derived.Test.YtchlpclgkhggeaaVFc
import Derived.Test.YtchlpclgkhggeaaChecked
namespace Go.Proofs.Ytchlpclgkhggeaa
open Go Go.RowKit
set_option linter.unusedVariables false
set_option linter.unusedSimpArgs false
theorem fol : PP.follows .mixedOrders = true:=by kernel_rfl
theorem tx {f : FuncId} {fn : Func} {c : Code} {or : List (Nat × (List Nat × List Nat × List Nat))} (t : Txt PP f fn c or) (ke : List Nat) {args : List V} {r : V} (fz : List (Nat × List Nat)) (ha : Nat.ble args.length fn.ntmps = true) (h : awp PP ⟨ke,fz,or,[],[],0⟩ c (RetS PP fn.results.toList r) ⟨initTm 0 args,[]⟩) : PC PP f args r [] :=
 PC.intro fol (an:=⟨ke,fz,or,[],[],0⟩) t.en t.hf t.hb t.hd t.hw ha h
theorem txe {f : FuncId} {fn : Func} {c : Code} {or : List (Nat × (List Nat × List Nat × List Nat))} (t : Txt PP f fn c or) (ke : List Nat) {args : List V} {r : V} (fz : List (Nat × List Nat)) (en mu : List Nat) (ha : Nat.ble args.length fn.ntmps = true) (h : awp PP ⟨ke,fz,or,en,mu,0⟩ c (RetS PP fn.results.toList r) ⟨initTm 0 args,[]⟩) : PC PP f args r [] :=
 PC.intro fol (an:=⟨ke,fz,or,en,mu,0⟩) t.en t.hf t.hb t.hd t.hw ha h
theorem txg {f : FuncId} {fn : Func} {c : Code} {or : List (Nat × (List Nat × List Nat × List Nat))} (t : Txt PP f fn c or) (ke : List Nat) {args : List V} {r : V} {H0 H1 : List Ob} (n0 : Nat) (fz : List (Nat × List Nat)) (en mu : List Nat) (hn : H0.length = n0) (ha : Nat.ble args.length fn.ntmps = true) (h : awp PP ⟨ke,fz,or,en,mu,n0⟩ c (RetG PP n0 fn.results.toList r H1) ⟨initTm 0 args,H0⟩) : GC PP f args H0 r H1 :=
 GC.intro fol (an:=⟨ke,fz,or,en,mu,n0⟩) t.en t.hf t.hb t.hd t.hw ha hn h
theorem txb {f : FuncId} {fn : Func} {c : Code} {or : List (Nat × (List Nat × List Nat × List Nat))} (t : Txt PP f fn c or) (ke : List Nat) {args : List V} {r : V} {H1 : List Ob} (fz : List (Nat × List Nat)) (en mu : List Nat) (ha : Nat.ble args.length fn.ntmps = true) (h : awp PP ⟨ke,fz,or,en,mu,0⟩ c (RetB PP fn.results.toList r H1) ⟨initTm 0 args,[]⟩) : PB PP f args r H1 :=
 PB.intro fol (an:=⟨ke,fz,or,en,mu,0⟩) t.en t.hf t.hb t.hd t.hw ha rfl h
abbrev T_int : Nat:=3
abbrev X0G : Nat:=4
abbrev X4g : Nat:=5
abbrev Q9J : Nat:=22
abbrev Q0n : Nat:=27
abbrev Q3e : Nat:=31
abbrev Q0F : Nat:=35
abbrev Q6x : Nat:=37
abbrev Q0U : Nat:=39
abbrev Q4i : Nat:=73
abbrev Q3G : Nat:=108
abbrev Q0c : Nat:=110
abbrev Q0a : Nat:=111
abbrev Q8t : Nat:=115
attribute [go_sem] Try.f3
abbrev Q0I : Nat:=4
theorem X0q : Enters PP 4:=enters_of Try.func4 (by kernel_rfl) rfl
def Q5z : List (Nat × (List Nat × List Nat × List Nat)):=[]
def Q3p : List Nat:=[0,2,3,4,5,6,7,8,9,10,11,14,29,36,58,77,80,110,114,133]
noncomputable def Q5W : Code:=(Try.f4.body).getD .skip
theorem Q6V : Txt PP Q0I Try.f4 Q5W Q5z:=⟨X0q,Try.func4,rfl,by kernel_rfl,by kernel_rfl⟩
attribute [go_sem] Q5W Q3p Q5z Try.f4
attribute [go_sem] Try.f5
attribute [go_sem] Try.f6
attribute [go_sem] Try.f7
attribute [go_sem] Try.f8
attribute [go_sem] Try.f9
attribute [go_sem] Try.f10
attribute [go_sem] Try.f11
attribute [go_sem] Try.f12
abbrev Q1b : Nat:=13
theorem Q7i : Enters PP 13:=enters_of Try.func13 (by kernel_rfl) rfl
def Q3i : List (Nat × (List Nat × List Nat × List Nat)):=[]
def Q3o : List Nat:=[0,2]
noncomputable def Q3A : Code:=(Try.f13.body).getD .skip
theorem Q8m : Txt PP Q1b Try.f13 Q3A Q3i:=⟨Q7i,Try.func13,rfl,by kernel_rfl,by kernel_rfl⟩
attribute [go_sem] Q3A Q3o Q3i Try.f13
abbrev Q1y : Nat:=14
theorem Q6B : Enters PP 14:=enters_of Try.func14 (by kernel_rfl) rfl
def Q0y : List Nat:=[0,1,2,3,4,5,6,8,11,19,26,27,28,29]
noncomputable def Q2V : Code:=(Try.f14.body).getD .skip
attribute [go_sem] Q2V Q0y Try.f14
abbrev Q5k : Nat:=15
theorem Q8Q : Enters PP 15:=enters_of Try.func15 (by kernel_rfl) rfl
def Q4r : List (Nat × (List Nat × List Nat × List Nat)):=[]
def Q4u : List Nat:=[0,1,2]
noncomputable def Q4D : Code:=(Try.f15.body).getD .skip
theorem Q9C : Txt PP Q5k Try.f15 Q4D Q4r:=⟨Q8Q,Try.func15,rfl,by kernel_rfl,by kernel_rfl⟩
attribute [go_sem] Q4D Q4u Q4r Try.f15
abbrev Q6j : Nat:=16
theorem Q9y : Enters PP 16:=enters_of Try.func16 (by kernel_rfl) rfl
def Q4Y : List (Nat × (List Nat × List Nat × List Nat)):=[]
def Q5c : List Nat:=[0,1,2,3,4]
noncomputable def Q5g : Code:=(Try.f16.body).getD .skip
theorem X0D : Txt PP Q6j Try.f16 Q5g Q4Y:=⟨Q9y,Try.func16,rfl,by kernel_rfl,by kernel_rfl⟩
attribute [go_sem] Q5g Q5c Q4Y Try.f16
abbrev Q4V : Nat:=17
theorem X0R : Enters PP 17:=enters_of Try.func17 (by kernel_rfl) rfl
def Q6M : List (Nat × (List Nat × List Nat × List Nat)):=[(1,[0,2,1,3,4,5],[],[])]
def Q6Q : List Nat:=[0,1,2,3,4,5,6,16]
noncomputable def Q6U : Code:=(Try.f17.body).getD .skip
theorem X2l : Txt PP Q4V Try.f17 Q6U Q6M:=⟨X0R,Try.func17,rfl,by kernel_rfl,by kernel_rfl⟩
attribute [go_sem] Q6U Q6Q Q6M Try.f17
abbrev Q4b : Nat:=18
theorem Q7k : Enters PP 18:=enters_of Try.func18 (by kernel_rfl) rfl
def Q3k : List (Nat × (List Nat × List Nat × List Nat)):=[]
def Q3s : List Nat:=[0,1,2,3,4]
noncomputable def Q3C : Code:=(Try.f18.body).getD .skip
theorem Q8p : Txt PP Q4b Try.f18 Q3C Q3k:=⟨Q7k,Try.func18,rfl,by kernel_rfl,by kernel_rfl⟩
attribute [go_sem] Q3C Q3s Q3k Try.f18
attribute [go_sem] Try.f19
attribute [go_sem] Try.f20
attribute [go_sem] Try.f21
attribute [go_sem] Try.f22
attribute [go_sem] Try.f23
attribute [go_sem] Try.f24
attribute [go_sem] Try.f25
attribute [go_sem] Try.f26
attribute [go_sem] Try.f27
attribute [go_sem] Try.f28
attribute [go_sem] Try.f29
attribute [go_sem] Try.f30
attribute [go_sem] Try.f31
attribute [go_sem] Try.f32
attribute [go_sem] Try.f33
attribute [go_sem] Try.f34
attribute [go_sem] Try.f35
attribute [go_sem] Try.f36
attribute [go_sem] Try.f37
attribute [go_sem] Try.f38
attribute [go_sem] Try.f39
abbrev Q1F : Nat:=40
theorem X2c : Enters PP 40:=enters_of Try.func40 (by kernel_rfl) rfl
def Q7U : List Nat:=[0,2,3,4,5,6,7,8,9,10,11,12,13,14,15,34,35,36,48,51,52,53,54,117,118,119,138,149,150,151,152,175,181,182,183]
noncomputable def Q8i : Code:=(Try.f40.body).getD .skip
attribute [go_sem] Q8i Q7U Try.f40
attribute [go_sem] Try.f41
abbrev Q4j : Nat:=42
theorem X0n : Enters PP 42:=enters_of Try.func42 (by kernel_rfl) rfl
def Q5G : List Nat:=[0,2,3,4,5,6,7,8,9,21,40,46,53,69]
noncomputable def Q5T : Code:=(Try.f42.body).getD .skip
attribute [go_sem] Q5T Q5G Try.f42
abbrev Q4S : Nat:=43
theorem X0O : Enters PP 43:=enters_of Try.func43 (by kernel_rfl) rfl
def Q6J : List (Nat × (List Nat × List Nat × List Nat)):=[]
def Q6O : List Nat:=[0,2,3,4,15]
noncomputable def Q6R : Code:=(Try.f43.body).getD .skip
theorem X2j : Txt PP Q4S Try.f43 Q6R Q6J:=⟨X0O,Try.func43,rfl,by kernel_rfl,by kernel_rfl⟩
attribute [go_sem] Q6R Q6O Q6J Try.f43
abbrev Q1j : Nat:=44
theorem X2a : Enters PP 44:=enters_of Try.func44 (by kernel_rfl) rfl
def Q7L : List (Nat × (List Nat × List Nat × List Nat)):=[]
def Q3c : List Nat:=[0,2,3,4,5,6,7,8,9,10,11,12,13,14,15,22,37,41,42,43,59,60,61,71,72,73,74,102,103,104,105]
noncomputable def Q8g : Code:=(Try.f44.body).getD .skip
theorem Q6d : Txt PP Q1j Try.f44 Q8g Q7L:=⟨X2a,Try.func44,rfl,by kernel_rfl,by kernel_rfl⟩
attribute [go_sem] Q8g Q3c Q7L Try.f44
abbrev Q3Z : Nat:=45
theorem X1Z : Enters PP 45:=enters_of Try.func45 (by kernel_rfl) rfl
def Q7K : List (Nat × (List Nat × List Nat × List Nat)):=[(3,[0,1,2,3,5,6,7,8,4,9,10,11],[],[])]
def Q4K : List Nat:=[0,2,4]
noncomputable def Q8f : Code:=(Try.f45.body).getD .skip
theorem Q9r : Txt PP Q3Z Try.f45 Q8f Q7K:=⟨X1Z,Try.func45,rfl,by kernel_rfl,by kernel_rfl⟩
attribute [go_sem] Q8f Q4K Q7K Try.f45
abbrev X1z : Nat:=46
theorem X3S : Enters PP 46:=enters_of Try.func46 (by kernel_rfl) rfl
def X0d : List (Nat × (List Nat × List Nat × List Nat)):=[]
def X0i : List Nat:=[0,2,17]
noncomputable def X0y : Code:=(Try.f46.body).getD .skip
theorem X5E : Txt PP X1z Try.f46 X0y X0d:=⟨X3S,Try.func46,rfl,by kernel_rfl,by kernel_rfl⟩
attribute [go_sem] X0y X0i X0d Try.f46
abbrev Q4F : Nat:=47
theorem Q8b : Enters PP 47:=enters_of Try.func47 (by kernel_rfl) rfl
def Q3S : List (Nat × (List Nat × List Nat × List Nat)):=[]
def Q3U : List Nat:=[0,2]
noncomputable def Q3X : Code:=(Try.f47.body).getD .skip
theorem Q8U : Txt PP Q4F Try.f47 Q3X Q3S:=⟨Q8b,Try.func47,rfl,by kernel_rfl,by kernel_rfl⟩
attribute [go_sem] Q3X Q3U Q3S Try.f47
abbrev Q2j : Nat:=48
theorem Q4N : Enters PP 48:=enters_of Try.func48 (by kernel_rfl) rfl
def Q1M : List (Nat × (List Nat × List Nat × List Nat)):=[]
def Q1S : List Nat:=[0,1,4,5,10,12,13,14,24]
noncomputable def Q1W : Code:=(Try.f48.body).getD .skip
theorem Q5o : Txt PP Q2j Try.f48 Q1W Q1M:=⟨Q4N,Try.func48,rfl,by kernel_rfl,by kernel_rfl⟩
attribute [go_sem] Q1W Q1S Q1M Try.f48
abbrev Q4U : Nat:=49
theorem X3h : Enters PP 49:=enters_of Try.func49 (by kernel_rfl) rfl
def Q9b : List (Nat × (List Nat × List Nat × List Nat)):=[]
def Q9g : List Nat:=[0,1,2,5]
noncomputable def Q9o : Code:=(Try.f49.body).getD .skip
theorem X4e : Txt PP Q4U Try.f49 Q9o Q9b:=⟨X3h,Try.func49,rfl,by kernel_rfl,by kernel_rfl⟩
attribute [go_sem] Q9o Q9g Q9b Try.f49
abbrev Q5i : Nat:=50
theorem Q8O : Enters PP 50:=enters_of Try.func50 (by kernel_rfl) rfl
def Q4p : List (Nat × (List Nat × List Nat × List Nat)):=[(1,[0,1,2,3,4,6,7,8,9,10,5,11,12,13],[],[])]
def Q4s : List Nat:=[0,1,4]
noncomputable def Q4B : Code:=(Try.f50.body).getD .skip
theorem Q9A : Txt PP Q5i Try.f50 Q4B Q4p:=⟨Q8O,Try.func50,rfl,by kernel_rfl,by kernel_rfl⟩
attribute [go_sem] Q4B Q4s Q4p Try.f50
abbrev Q3J : Nat:=51
theorem Q6C : Enters PP 51:=enters_of Try.func51 (by kernel_rfl) rfl
def Q2G : List (Nat × (List Nat × List Nat × List Nat)):=[]
def Q2O : List Nat:=[0,1,4,5,10,12,13,14,25]
noncomputable def Q2W : Code:=(Try.f51.body).getD .skip
theorem Q7u : Txt PP Q3J Try.f51 Q2W Q2G:=⟨Q6C,Try.func51,rfl,by kernel_rfl,by kernel_rfl⟩
attribute [go_sem] Q2W Q2O Q2G Try.f51
attribute [go_sem] Try.f52
attribute [go_sem] Try.f53
attribute [go_sem] Try.f54
attribute [go_sem] Try.f55
attribute [go_sem] Try.f56
attribute [go_sem] Try.f57
attribute [go_sem] Try.f58
abbrev Q4c : Nat:=59
theorem Q7l : Enters PP 59:=enters_of Try.func59 (by kernel_rfl) rfl
def Q3l : List (Nat × (List Nat × List Nat × List Nat)):=[]
def Q3t : List Nat:=[0,1,4]
noncomputable def Q3D : Code:=(Try.f59.body).getD .skip
theorem Q8q : Txt PP Q4c Try.f59 Q3D Q3l:=⟨Q7l,Try.func59,rfl,by kernel_rfl,by kernel_rfl⟩
attribute [go_sem] Q3D Q3t Q3l Try.f59
abbrev Q9s : Nat:=60
theorem X1X : Enters PP 60:=enters_of Try.func60 (by kernel_rfl) rfl
def Q7I : List (Nat × (List Nat × List Nat × List Nat)):=[]
def Q7S : List Nat:=[0,2]
noncomputable def Q8d : Code:=(Try.f60.body).getD .skip
theorem X3q : Txt PP Q9s Try.f60 Q8d Q7I:=⟨X1X,Try.func60,rfl,by kernel_rfl,by kernel_rfl⟩
attribute [go_sem] Q8d Q7S Q7I Try.f60
abbrev Q6h : Nat:=61
theorem Q9x : Enters PP 61:=enters_of Try.func61 (by kernel_rfl) rfl
def Q4X : List (Nat × (List Nat × List Nat × List Nat)):=[]
def Q5b : List Nat:=[0,1,4,5,6,7,8,10,12]
noncomputable def Q5f : Code:=(Try.f61.body).getD .skip
theorem X0B : Txt PP Q6h Try.f61 Q5f Q4X:=⟨Q9x,Try.func61,rfl,by kernel_rfl,by kernel_rfl⟩
attribute [go_sem] Q5f Q5b Q4X Try.f61
attribute [go_sem] Try.f62
attribute [go_sem] Try.f63
attribute [go_sem] Try.f64
attribute [go_sem] Try.f65
attribute [go_sem] Try.f66
attribute [go_sem] Try.f67
attribute [go_sem] Try.f68
attribute [go_sem] Try.f69
attribute [go_sem] Try.f70
attribute [go_sem] Try.f71
attribute [go_sem] Try.f72
attribute [go_sem] Try.f73
attribute [go_sem] Try.f74
attribute [go_sem] Try.f75
attribute [go_sem] Try.f76
attribute [go_sem] Try.f77
attribute [go_sem] Try.f78
attribute [go_sem] Try.f79
attribute [go_sem] Try.f80
attribute [go_sem] Try.f81
abbrev Q6Z : Nat:=82
theorem X0s : Enters PP 82:=enters_of Try.func82 (by kernel_rfl) rfl
def Q5B : List (Nat × (List Nat × List Nat × List Nat)):=[]
def Q5L : List Nat:=[0,2,4]
noncomputable def Q5Y : Code:=(Try.f82.body).getD .skip
theorem X0V : Txt PP Q6Z Try.f82 Q5Y Q5B:=⟨X0s,Try.func82,rfl,by kernel_rfl,by kernel_rfl⟩
attribute [go_sem] Q5Y Q5L Q5B Try.f82
abbrev Q0i : Nat:=83
theorem Q4z : Enters PP 83:=enters_of Try.func83 (by kernel_rfl) rfl
def Q1z : List (Nat × (List Nat × List Nat × List Nat)):=[]
def Q1B : List Nat:=[0,1,4,5,6,7,8,9,13,14,15,39,44,53,54,55,79]
noncomputable def Q1E : Code:=(Try.f83.body).getD .skip
theorem Q4R : Txt PP Q0i Try.f83 Q1E Q1z:=⟨Q4z,Try.func83,rfl,by kernel_rfl,by kernel_rfl⟩
attribute [go_sem] Q1E Q1B Q1z Try.f83
abbrev Q4d : Nat:=84
theorem Q7m : Enters PP 84:=enters_of Try.func84 (by kernel_rfl) rfl
def Q3m : List (Nat × (List Nat × List Nat × List Nat)):=[]
def Q3u : List Nat:=[0,1,2,3,8]
noncomputable def Q3E : Code:=(Try.f84.body).getD .skip
theorem Q8r : Txt PP Q4d Try.f84 Q3E Q3m:=⟨Q7m,Try.func84,rfl,by kernel_rfl,by kernel_rfl⟩
attribute [go_sem] Q3E Q3u Q3m Try.f84
abbrev Q1o : Nat:=85
theorem Q5S : Enters PP 85:=enters_of Try.func85 (by kernel_rfl) rfl
def Q2t : List Nat:=[0,1,4,5,12,21,40,45]
noncomputable def Q2y : Code:=(Try.f85.body).getD .skip
attribute [go_sem] Q2y Q2t Try.f85
abbrev Q6X : Nat:=86
theorem X0o : Enters PP 86:=enters_of Try.func86 (by kernel_rfl) rfl
def Q5x : List (Nat × (List Nat × List Nat × List Nat)):=[]
def Q5H : List Nat:=[0,1,4]
noncomputable def Q5U : Code:=(Try.f86.body).getD .skip
theorem X0S : Txt PP Q6X Try.f86 Q5U Q5x:=⟨X0o,Try.func86,rfl,by kernel_rfl,by kernel_rfl⟩
attribute [go_sem] Q5U Q5H Q5x Try.f86
abbrev Q8u : Nat:=87
theorem X0Q : Enters PP 87:=enters_of Try.func87 (by kernel_rfl) rfl
def Q6L : List (Nat × (List Nat × List Nat × List Nat)):=[]
def Q6P : List Nat:=[0,1,2,4,5,6,8,13,24]
noncomputable def Q6T : Code:=(Try.f87.body).getD .skip
theorem X2k : Txt PP Q8u Try.f87 Q6T Q6L:=⟨X0Q,Try.func87,rfl,by kernel_rfl,by kernel_rfl⟩
attribute [go_sem] Q6T Q6P Q6L Try.f87
abbrev Q4E : Nat:=88
theorem Q8a : Enters PP 88:=enters_of Try.func88 (by kernel_rfl) rfl
def Q3R : List (Nat × (List Nat × List Nat × List Nat)):=[(1,[0,1,2,3,4,6,7,8,9,10,13,14,15,16,17,18,19,20,5,11,12,21,22,23],[],[])]
def Q3T : List Nat:=[0,1,4]
noncomputable def Q3W : Code:=(Try.f88.body).getD .skip
theorem Q8T : Txt PP Q4E Try.f88 Q3W Q3R:=⟨Q8a,Try.func88,rfl,by kernel_rfl,by kernel_rfl⟩
attribute [go_sem] Q3W Q3T Q3R Try.f88
abbrev Q4a : Nat:=89
theorem Q7j : Enters PP 89:=enters_of Try.func89 (by kernel_rfl) rfl
def Q3j : List (Nat × (List Nat × List Nat × List Nat)):=[(1,[0,1,2,3,4,5,6,7,9,10,11,12,13,14,15,16,8,17,18,19],[],[])]
def Q3q : List Nat:=[0,1,4]
noncomputable def Q3B : Code:=(Try.f89.body).getD .skip
theorem Q8o : Txt PP Q4a Try.f89 Q3B Q3j:=⟨Q7j,Try.func89,rfl,by kernel_rfl,by kernel_rfl⟩
attribute [go_sem] Q3B Q3q Q3j Try.f89
abbrev Q3M : Nat:=90
theorem Q6F : Enters PP 90:=enters_of Try.func90 (by kernel_rfl) rfl
def Q2J : List (Nat × (List Nat × List Nat × List Nat)):=[]
def Q2R : List Nat:=[0,1,2,6]
noncomputable def Q2Z : Code:=(Try.f90.body).getD .skip
theorem Q7x : Txt PP Q3M Try.f90 Q2Z Q2J:=⟨Q6F,Try.func90,rfl,by kernel_rfl,by kernel_rfl⟩
attribute [go_sem] Q2Z Q2R Q2J Try.f90
abbrev Q0Z : Nat:=91
theorem Q4O : Enters PP 91:=enters_of Try.func91 (by kernel_rfl) rfl
def Q1N : List (Nat × (List Nat × List Nat × List Nat)):=[]
def Q0g : List Nat:=[0,2,4]
noncomputable def Q1X : Code:=(Try.f91.body).getD .skip
theorem Q0l : Txt PP Q0Z Try.f91 Q1X Q1N:=⟨Q4O,Try.func91,rfl,by kernel_rfl,by kernel_rfl⟩
attribute [go_sem] Q1X Q0g Q1N Try.f91
abbrev Q0x : Nat:=92
theorem Q2w : Enters PP 92:=enters_of Try.func92 (by kernel_rfl) rfl
def Q0M : List (Nat × (List Nat × List Nat × List Nat)):=[]
def Q0N : List Nat:=[0,1,4]
noncomputable def Q0P : Code:=(Try.f92.body).getD .skip
theorem Q2C : Txt PP Q0x Try.f92 Q0P Q0M:=⟨Q2w,Try.func92,rfl,by kernel_rfl,by kernel_rfl⟩
attribute [go_sem] Q0P Q0N Q0M Try.f92
abbrev Q1x : Nat:=93
theorem Q6A : Enters PP 93:=enters_of Try.func93 (by kernel_rfl) rfl
def Q2F : List (Nat × (List Nat × List Nat × List Nat)):=[]
def Q2N : List Nat:=[0,2]
noncomputable def Q2U : Code:=(Try.f93.body).getD .skip
theorem Q7t : Txt PP Q1x Try.f93 Q2U Q2F:=⟨Q6A,Try.func93,rfl,by kernel_rfl,by kernel_rfl⟩
attribute [go_sem] Q2U Q2N Q2F Try.f93
abbrev Q9u : Nat:=94
theorem X2d : Enters PP 94:=enters_of Try.func94 (by kernel_rfl) rfl
def Q7N : List (Nat × (List Nat × List Nat × List Nat)):=[]
def Q7V : List Nat:=[0,1,2,31]
noncomputable def Q8j : Code:=(Try.f94.body).getD .skip
theorem X3s : Txt PP Q9u Try.f94 Q8j Q7N:=⟨X2d,Try.func94,rfl,by kernel_rfl,by kernel_rfl⟩
attribute [go_sem] Q8j Q7V Q7N Try.f94
abbrev Q3I : Nat:=95
theorem Q6z : Enters PP 95:=enters_of Try.func95 (by kernel_rfl) rfl
def Q2E : List (Nat × (List Nat × List Nat × List Nat)):=[]
def Q2M : List Nat:=[0,1,4]
noncomputable def Q2T : Code:=(Try.f95.body).getD .skip
theorem Q7s : Txt PP Q3I Try.f95 Q2T Q2E:=⟨Q6z,Try.func95,rfl,by kernel_rfl,by kernel_rfl⟩
attribute [go_sem] Q2T Q2M Q2E Try.f95
abbrev Q2A : Nat:=96
theorem Q5m : Enters PP 96:=enters_of Try.func96 (by kernel_rfl) rfl
def Q2b : List (Nat × (List Nat × List Nat × List Nat)):=[]
def Q2e : List Nat:=[0,1,2,3,4,5,15,21]
noncomputable def Q2g : Code:=(Try.f96.body).getD .skip
theorem Q6f : Txt PP Q2A Try.f96 Q2g Q2b:=⟨Q5m,Try.func96,rfl,by kernel_rfl,by kernel_rfl⟩
attribute [go_sem] Q2g Q2e Q2b Try.f96
attribute [go_sem] Try.f97
attribute [go_sem] Try.f98
attribute [go_sem] Try.f99
attribute [go_sem] Try.f100
attribute [go_sem] Try.f101
attribute [go_sem] Try.f102
abbrev Q4k : Nat:=103
theorem X0p : Enters PP 103:=enters_of Try.func103 (by kernel_rfl) rfl
def Q5y : List (Nat × (List Nat × List Nat × List Nat)):=[]
def Q5I : List Nat:=[0,2,3,34]
noncomputable def Q5V : Code:=(Try.f103.body).getD .skip
theorem X0T : Txt PP Q4k Try.f103 Q5V Q5y:=⟨X0p,Try.func103,rfl,by kernel_rfl,by kernel_rfl⟩
attribute [go_sem] Q5V Q5I Q5y Try.f103
attribute [go_sem] Try.f104
attribute [go_sem] Try.f105
attribute [go_sem] Try.f106
attribute [go_sem] Try.f107
attribute [go_sem] Try.f108
attribute [go_sem] Try.f109
attribute [go_sem] Try.f110
attribute [go_sem] Try.f111
attribute [go_sem] Try.f112
attribute [go_sem] Try.f113
attribute [go_sem] Try.f114
attribute [go_sem] Try.f115
attribute [go_sem] Try.f116
abbrev Q4T : Nat:=117
theorem X0P : Enters PP 117:=enters_of Try.func117 (by kernel_rfl) rfl
def Q6K : List (Nat × (List Nat × List Nat × List Nat)):=[]
def Q4g : List Nat:=[0,1,4]
noncomputable def Q6S : Code:=(Try.f117.body).getD .skip
theorem Q8n : Txt PP Q4T Try.f117 Q6S Q6K:=⟨X0P,Try.func117,rfl,by kernel_rfl,by kernel_rfl⟩
attribute [go_sem] Q6S Q4g Q6K Try.f117
abbrev Q6Y : Nat:=118
theorem X0r : Enters PP 118:=enters_of Try.func118 (by kernel_rfl) rfl
def Q5A : List (Nat × (List Nat × List Nat × List Nat)):=[]
def Q5K : List Nat:=[0,2,3,5]
noncomputable def Q5X : Code:=(Try.f118.body).getD .skip
theorem X0U : Txt PP Q6Y Try.f118 Q5X Q5A:=⟨X0r,Try.func118,rfl,by kernel_rfl,by kernel_rfl⟩
attribute [go_sem] Q5X Q5K Q5A Try.f118
abbrev Q1s : Nat:=119
theorem Q3N : Enters PP 119:=enters_of Try.func119 (by kernel_rfl) rfl
def Q1k : List (Nat × (List Nat × List Nat × List Nat)):=[]
def Q1l : List Nat:=[0,1,4]
noncomputable def Q1m : Code:=(Try.f119.body).getD .skip
theorem Q4h : Txt PP Q1s Try.f119 Q1m Q1k:=⟨Q3N,Try.func119,rfl,by kernel_rfl,by kernel_rfl⟩
attribute [go_sem] Q1m Q1l Q1k Try.f119
abbrev Q3H : Nat:=120
theorem Q6y : Enters PP 120:=enters_of Try.func120 (by kernel_rfl) rfl
def Q2D : List (Nat × (List Nat × List Nat × List Nat)):=[(1,[0,1,2,3,4,5,6,7,8,9,10,11],[7],[])]
def Q2L : List Nat:=[0,1,2,6,7,8,9,23,24,25,26,48]
noncomputable def Q2S : Code:=(Try.f120.body).getD .skip
theorem Q7r : Txt PP Q3H Try.f120 Q2S Q2D:=⟨Q6y,Try.func120,rfl,by kernel_rfl,by kernel_rfl⟩
attribute [go_sem] Q2S Q2L Q2D Try.f120
abbrev Q2k : Nat:=121
theorem Q4P : Enters PP 121:=enters_of Try.func121 (by kernel_rfl) rfl
def Q1O : List (Nat × (List Nat × List Nat × List Nat)):=[(8,[0,1,2,3,4,5,6,7,8,9,10,11,12,13,14,15,16,18,19,20,21,22,23,24,25,26,27,28,29,30,31,32,33,34,17,35,36,37],[],[])]
def Q1T : List Nat:=[0,1,4,5,6,7,8,12,13,14,15,24,26,87]
noncomputable def Q1Y : Code:=(Try.f121.body).getD .skip
theorem Q5p : Txt PP Q2k Try.f121 Q1Y Q1O:=⟨Q4P,Try.func121,rfl,by kernel_rfl,by kernel_rfl⟩
attribute [go_sem] Q1Y Q1T Q1O Try.f121
abbrev Q3a : Nat:=122
theorem Q5R : Enters PP 122:=enters_of Try.func122 (by kernel_rfl) rfl
def Q2p : List (Nat × (List Nat × List Nat × List Nat)):=[(10,[0,1,2,3,4,5,6,7],[12],[])]
def Q2s : List Nat:=[0,1,2,6,7,8,9,10,11,12,14,15,30,31,32,33,39,45,46,47,65,98,107,108,109,110,114,115,116]
noncomputable def Q2x : Code:=(Try.f122.body).getD .skip
theorem Q6G : Txt PP Q3a Try.f122 Q2x Q2p:=⟨Q5R,Try.func122,rfl,by kernel_rfl,by kernel_rfl⟩
attribute [go_sem] Q2x Q2s Q2p Try.f122
abbrev Q4l : Nat:=123
theorem X0t : Enters PP 123:=enters_of Try.func123 (by kernel_rfl) rfl
def Q5C : List (Nat × (List Nat × List Nat × List Nat)):=[]
def Q3r : List Nat:=[0,1,4,6,9]
noncomputable def Q5Z : Code:=(Try.f123.body).getD .skip
theorem Q6W : Txt PP Q4l Try.f123 Q5Z Q5C:=⟨X0t,Try.func123,rfl,by kernel_rfl,by kernel_rfl⟩
attribute [go_sem] Q5Z Q3r Q5C Try.f123
abbrev Q7a : Nat:=124
theorem X0u : Enters PP 124:=enters_of Try.func124 (by kernel_rfl) rfl
def Q5D : List (Nat × (List Nat × List Nat × List Nat)):=[]
def Q5M : List Nat:=[0,1,4,5,10,15,20,23,33]
noncomputable def Q6a : Code:=(Try.f124.body).getD .skip
theorem X0W : Txt PP Q7a Try.f124 Q6a Q5D:=⟨X0u,Try.func124,rfl,by kernel_rfl,by kernel_rfl⟩
attribute [go_sem] Q6a Q5M Q5D Try.f124
abbrev X0J : Nat:=125
theorem X3g : Enters PP 125:=enters_of Try.func125 (by kernel_rfl) rfl
def Q9a : List (Nat × (List Nat × List Nat × List Nat)):=[(25,[0,2,3,4,1,5,6,7,8,9,10],[],[])]
def Q9f : List Nat:=[0,1,4,5,6,7,8,9,10,11,12,13,14,15,16,17,22,27,61,78,131,142,148]
noncomputable def Q9n : Code:=(Try.f125.body).getD .skip
theorem X4d : Txt PP X0J Try.f125 Q9n Q9a:=⟨X3g,Try.func125,rfl,by kernel_rfl,by kernel_rfl⟩
attribute [go_sem] Q9n Q9f Q9a Try.f125
abbrev Q4e : Nat:=126
theorem Q7n : Enters PP 126:=enters_of Try.func126 (by kernel_rfl) rfl
def Q3n : List (Nat × (List Nat × List Nat × List Nat)):=[]
def Q3v : List Nat:=[0,1,2,3,4,5,19,33]
noncomputable def Q3F : Code:=(Try.f126.body).getD .skip
theorem Q8s : Txt PP Q4e Try.f126 Q3F Q3n:=⟨Q7n,Try.func126,rfl,by kernel_rfl,by kernel_rfl⟩
attribute [go_sem] Q3F Q3v Q3n Try.f126
abbrev Q6i : Nat:=127
theorem X1Y : Enters PP 127:=enters_of Try.func127 (by kernel_rfl) rfl
def Q7J : List (Nat × (List Nat × List Nat × List Nat)):=[]
def Q4J : List Nat:=[0,1,4,5,6,7,8,9,10,11,19,26,27,28,29,33,34,35,36]
noncomputable def Q8e : Code:=(Try.f127.body).getD .skip
theorem Q9q : Txt PP Q6i Try.f127 Q8e Q7J:=⟨X1Y,Try.func127,rfl,by kernel_rfl,by kernel_rfl⟩
attribute [go_sem] Q8e Q4J Q7J Try.f127
abbrev Q3K : Nat:=128
theorem Q6D : Enters PP 128:=enters_of Try.func128 (by kernel_rfl) rfl
def Q2H : List (Nat × (List Nat × List Nat × List Nat)):=[]
def Q2P : List Nat:=[0,1,2,3,4]
noncomputable def Q2X : Code:=(Try.f128.body).getD .skip
theorem Q7v : Txt PP Q3K Try.f128 Q2X Q2H:=⟨Q6D,Try.func128,rfl,by kernel_rfl,by kernel_rfl⟩
attribute [go_sem] Q2X Q2P Q2H Try.f128
abbrev Q1n : Nat:=129
theorem Q3z : Enters PP 129:=enters_of Try.func129 (by kernel_rfl) rfl
def Q1f : List (Nat × (List Nat × List Nat × List Nat)):=[]
def Q1g : List Nat:=[0,1,4,5,7,8,9,16]
noncomputable def Q1i : Code:=(Try.f129.body).getD .skip
theorem Q3O : Txt PP Q1n Try.f129 Q1i Q1f:=⟨Q3z,Try.func129,rfl,by kernel_rfl,by kernel_rfl⟩
attribute [go_sem] Q1i Q1g Q1f Try.f129
abbrev Q6k : Nat:=130
theorem Q9z : Enters PP 130:=enters_of Try.func130 (by kernel_rfl) rfl
def Q4Z : List (Nat × (List Nat × List Nat × List Nat)):=[]
def Q5d : List Nat:=[0,1,2]
noncomputable def Q5h : Code:=(Try.f130.body).getD .skip
theorem X0E : Txt PP Q6k Try.f130 Q5h Q4Z:=⟨Q9z,Try.func130,rfl,by kernel_rfl,by kernel_rfl⟩
attribute [go_sem] Q5h Q5d Q4Z Try.f130
abbrev Q9v : Nat:=131
theorem X2e : Enters PP 131:=enters_of Try.func131 (by kernel_rfl) rfl
def Q7O : List (Nat × (List Nat × List Nat × List Nat)):=[]
def Q7W : List Nat:=[0,2,19]
noncomputable def Q8k : Code:=(Try.f131.body).getD .skip
theorem X3t : Txt PP Q9v Try.f131 Q8k Q7O:=⟨X2e,Try.func131,rfl,by kernel_rfl,by kernel_rfl⟩
attribute [go_sem] Q8k Q7W Q7O Try.f131
attribute [go_sem] Try.f132
attribute [go_sem] Try.f133
abbrev Q1a : Nat:=134
theorem Q4Q : Enters PP 134:=enters_of Try.func134 (by kernel_rfl) rfl
def Q1P : List (Nat × (List Nat × List Nat × List Nat)):=[]
def Q0S : List Nat:=[0,1,2]
noncomputable def Q1Z : Code:=(Try.f134.body).getD .skip
theorem Q2h : Txt PP Q1a Try.f134 Q1Z Q1P:=⟨Q4Q,Try.func134,rfl,by kernel_rfl,by kernel_rfl⟩
attribute [go_sem] Q1Z Q0S Q1P Try.f134
attribute [go_sem] Try.f135
attribute [go_sem] Try.f136
attribute [go_sem] Try.f137
attribute [go_sem] Try.f138
attribute [go_sem] Try.f139
attribute [go_sem] Try.f140
attribute [go_sem] Try.f141
attribute [go_sem] Try.f142
attribute [go_sem] Try.f143
attribute [go_sem] Try.f144
attribute [go_sem] Try.f145
abbrev Q2i : Nat:=146
theorem Q4M : Enters PP 146:=enters_of Try.func146 (by kernel_rfl) rfl
def Q1L : List (Nat × (List Nat × List Nat × List Nat)):=[]
def Q1R : List Nat:=[0,1,4,5,7,8,9,16]
noncomputable def Q1V : Code:=(Try.f146.body).getD .skip
theorem Q5n : Txt PP Q2i Try.f146 Q1V Q1L:=⟨Q4M,Try.func146,rfl,by kernel_rfl,by kernel_rfl⟩
attribute [go_sem] Q1V Q1R Q1L Try.f146
abbrev Q3L : Nat:=147
theorem Q6E : Enters PP 147:=enters_of Try.func147 (by kernel_rfl) rfl
def Q2I : List (Nat × (List Nat × List Nat × List Nat)):=[]
def Q2Q : List Nat:=[0,1,2,3,4]
noncomputable def Q2Y : Code:=(Try.f147.body).getD .skip
theorem Q7w : Txt PP Q3L Try.f147 Q2Y Q2I:=⟨Q6E,Try.func147,rfl,by kernel_rfl,by kernel_rfl⟩
attribute [go_sem] Q2Y Q2Q Q2I Try.f147
abbrev Q2z : Nat:=148
theorem Q5l : Enters PP 148:=enters_of Try.func148 (by kernel_rfl) rfl
def Q2a : List (Nat × (List Nat × List Nat × List Nat)):=[]
def Q2d : List Nat:=[0,1,2,3,4,5]
noncomputable def Q2f : Code:=(Try.f148.body).getD .skip
theorem Q6e : Txt PP Q2z Try.f148 Q2f Q2a:=⟨Q5l,Try.func148,rfl,by kernel_rfl,by kernel_rfl⟩
attribute [go_sem] Q2f Q2d Q2a Try.f148
abbrev Q5j : Nat:=149
theorem Q8P : Enters PP 149:=enters_of Try.func149 (by kernel_rfl) rfl
def Q4q : List (Nat × (List Nat × List Nat × List Nat)):=[]
def Q4t : List Nat:=[0,1,4,5,6,7,8,9,17]
noncomputable def Q4C : Code:=(Try.f149.body).getD .skip
theorem Q9B : Txt PP Q5j Try.f149 Q4C Q4q:=⟨Q8P,Try.func149,rfl,by kernel_rfl,by kernel_rfl⟩
attribute [go_sem] Q4C Q4t Q4q Try.f149
abbrev X0H : Nat:=150
theorem X3e : Enters PP 150:=enters_of Try.func150 (by kernel_rfl) rfl
def Q8Y : List (Nat × (List Nat × List Nat × List Nat)):=[]
def Q9d : List Nat:=[0,1,2,6,7,8,9,10,11,12,13,14,29]
noncomputable def Q9l : Code:=(Try.f150.body).getD .skip
theorem X4b : Txt PP X0H Try.f150 Q9l Q8Y:=⟨X3e,Try.func150,rfl,by kernel_rfl,by kernel_rfl⟩
attribute [go_sem] Q9l Q9d Q8Y Try.f150
abbrev X0K : Nat:=151
theorem X3i : Enters PP 151:=enters_of Try.func151 (by kernel_rfl) rfl
def Q9c : List (Nat × (List Nat × List Nat × List Nat)):=[]
def Q9h : List Nat:=[0,1,4,5,6,7,8,9,10,11]
noncomputable def Q9p : Code:=(Try.f151.body).getD .skip
theorem X4f : Txt PP X0K Try.f151 Q9p Q9c:=⟨X3i,Try.func151,rfl,by kernel_rfl,by kernel_rfl⟩
attribute [go_sem] Q9p Q9h Q9c Try.f151
abbrev Q7y : Nat:=152
theorem X3d : Enters PP 152:=enters_of Try.func152 (by kernel_rfl) rfl
def Q8X : List (Nat × (List Nat × List Nat × List Nat)):=[]
def Q5J : List Nat:=[0,2,14]
noncomputable def Q9k : Code:=(Try.f152.body).getD .skip
theorem X0C : Txt PP Q7y Try.f152 Q9k Q8X:=⟨X3d,Try.func152,rfl,by kernel_rfl,by kernel_rfl⟩
attribute [go_sem] Q9k Q5J Q8X Try.f152
abbrev X0I : Nat:=153
theorem X3f : Enters PP 153:=enters_of Try.func153 (by kernel_rfl) rfl
def Q8Z : List (Nat × (List Nat × List Nat × List Nat)):=[]
def Q9e : List Nat:=[0,1,4,5,6,7,8,13,20,21,22,23,33]
noncomputable def Q9m : Code:=(Try.f153.body).getD .skip
theorem X4c : Txt PP X0I Try.f153 Q9m Q8Z:=⟨X3f,Try.func153,rfl,by kernel_rfl,by kernel_rfl⟩
attribute [go_sem] Q9m Q9e Q8Z Try.f153
abbrev Q9t : Nat:=154
theorem X2b : Enters PP 154:=enters_of Try.func154 (by kernel_rfl) rfl
def Q7M : List (Nat × (List Nat × List Nat × List Nat)):=[]
def Q7T : List Nat:=[0,1,4,5,6,7,8,12,13,14,15,25,33]
noncomputable def Q8h : Code:=(Try.f154.body).getD .skip
theorem X3r : Txt PP Q9t Try.f154 Q8h Q7M:=⟨X2b,Try.func154,rfl,by kernel_rfl,by kernel_rfl⟩
attribute [go_sem] Q8h Q7T Q7M Try.f154
abbrev Q2o : Nat:=155
theorem X0v : Enters PP 155:=enters_of Try.func155 (by kernel_rfl) rfl
def Q5E : List (Nat × (List Nat × List Nat × List Nat)):=[]
def Q5N : List Nat:=[0,2]
noncomputable def Q6b : Code:=(Try.f155.body).getD .skip
theorem X0X : Txt PP Q2o Try.f155 Q6b Q5E:=⟨X0v,Try.func155,rfl,by kernel_rfl,by kernel_rfl⟩
attribute [go_sem] Q6b Q5N Q5E Try.f155
attribute [go_sem] Try.f156
attribute [go_sem] Try.f157
end Go.Proofs.Ytchlpclgkhggeaa