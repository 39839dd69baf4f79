/- part of the proof -/
import Derived.Test.YtchlpclgkhggeaaTTy
import Derived.Test.YtchlpclgkhggeaaTFc
import Derived.Test.YtchlpclgkhggeaaChecked
namespace Go.Proofs.Ytchlpclgkhggeaa
open Go Go.RowKit
set_option linter.unusedVariables false
set_option linter.unusedSimpArgs false
theorem fol : PP.follows .mixedOrders = true:=by kernel_rfl
theorem tx {f : FuncId} {fn : Func} {c : Code} {or : List (Nat × (List Nat × List Nat × List Nat))} (t : Txt PP f fn c or) (ke : List Nat) {args : List V} {r : V} (fz : List (Nat × List Nat)) (ha : Nat.ble args.length fn.ntmps = true) (h : awp PP ⟨ke,fz,or,[],[],0⟩ c (RetS PP fn.results.toList r) ⟨initTm 0 args,[]⟩) : PC PP f args r [] :=
 PC.intro fol (an:=⟨ke,fz,or,[],[],0⟩) t.en t.hf t.hb t.hd t.hw ha h
theorem txe {f : FuncId} {fn : Func} {c : Code} {or : List (Nat × (List Nat × List Nat × List Nat))} (t : Txt PP f fn c or) (ke : List Nat) {args : List V} {r : V} (fz : List (Nat × List Nat)) (en mu : List Nat) (ha : Nat.ble args.length fn.ntmps = true) (h : awp PP ⟨ke,fz,or,en,mu,0⟩ c (RetS PP fn.results.toList r) ⟨initTm 0 args,[]⟩) : PC PP f args r [] :=
 PC.intro fol (an:=⟨ke,fz,or,en,mu,0⟩) t.en t.hf t.hb t.hd t.hw ha h
theorem txg {f : FuncId} {fn : Func} {c : Code} {or : List (Nat × (List Nat × List Nat × List Nat))} (t : Txt PP f fn c or) (ke : List Nat) {args : List V} {r : V} {H0 H1 : List Ob} (n0 : Nat) (fz : List (Nat × List Nat)) (en mu : List Nat) (hn : H0.length = n0) (ha : Nat.ble args.length fn.ntmps = true) (h : awp PP ⟨ke,fz,or,en,mu,n0⟩ c (RetG PP n0 fn.results.toList r H1) ⟨initTm 0 args,H0⟩) : GC PP f args H0 r H1 :=
 GC.intro fol (an:=⟨ke,fz,or,en,mu,n0⟩) t.en t.hf t.hb t.hd t.hw ha hn h
theorem txi {f : FuncId} {fn : Func} {c : Code} {or : List (Nat × (List Nat × List Nat × List Nat))} (t : Txt PP f fn c or) (ke : List Nat) {args : List V} {r : V} {H H1 : List Ob} (fz : List (Nat × List Nat)) (en mu : List Nat) (ha : Nat.ble args.length fn.ntmps = true) (h : awp PP ⟨ke,fz,or,en,mu,H.length⟩ c (RetI PP fn.results.toList r H1) ⟨initTm 0 args,H⟩) : IC PP f args H r H1 :=
 IC.intro fol (an:=⟨ke,fz,or,en,mu,H.length⟩) t.en t.hf t.hb t.hd t.hw ha rfl h
theorem txb {f : FuncId} {fn : Func} {c : Code} {or : List (Nat × (List Nat × List Nat × List Nat))} (t : Txt PP f fn c or) (ke : List Nat) {args : List V} {r : V} {H1 : List Ob} (fz : List (Nat × List Nat)) (en mu : List Nat) (ha : Nat.ble args.length fn.ntmps = true) (h : awp PP ⟨ke,fz,or,en,mu,0⟩ c (RetB PP fn.results.toList r H1) ⟨initTm 0 args,[]⟩) : PB PP f args r H1 :=
 PB.intro fol (an:=⟨ke,fz,or,en,mu,0⟩) t.en t.hf t.hb t.hd t.hw ha rfl h
abbrev T_int : Nat:=3
abbrev X4Z : Nat:=4
abbrev X9x : Nat:=5
abbrev X3F : Nat:=22
abbrev Q0c : Nat:=27
abbrev Q3T : Nat:=31
abbrev Q0Q : Nat:=35
abbrev Q1k : Nat:=37
abbrev X1N : Nat:=39
abbrev Q0z : Nat:=73
abbrev Q4z : Nat:=108
abbrev Q0e : Nat:=110
abbrev Q0a : Nat:=111
abbrev X1M : Nat:=115
attribute [go_sem] Try.f3
attribute [go_sem] Try.f4
attribute [go_sem] Try.f5
attribute [go_sem] Try.f6
abbrev Q0s : Nat:=7
theorem Q8e : Enters PP 7:=enters_of Try.func7 (by kernel_rfl) rfl
def Q2U : List (Nat × (List Nat × List Nat × List Nat)):=[(14,[0,1,2,3,4,5,8,6,7,9,10,11,12,13,14,15,16,17,18,19,20,21,22,23,24,25,26,27,28,29,30,31,32,33,34,35,36,37,38,39,40,41,42,43,44,45,46,47,50,51,48,49,52,53,54],[],[])]
def Q0O : List Nat:=[0,2,3,4,6,7,8,9,10,11,12,13,14,17,33,35]
noncomputable def Q3g : Code:=(Try.f7.body).getD .skip
theorem Q1F : Txt PP Q0s Try.f7 Q3g Q2U:=⟨Q8e,Try.func7,rfl,by kernel_rfl,by kernel_rfl⟩
attribute [go_sem] Q3g Q0O Q2U Try.f7
attribute [go_sem] Try.f8
attribute [go_sem] Try.f9
attribute [go_sem] Try.f10
attribute [go_sem] Try.f11
attribute [go_sem] Try.f12
attribute [go_sem] Try.f13
abbrev Q1S : Nat:=14
theorem Q9e : Enters PP 14:=enters_of Try.func14 (by kernel_rfl) rfl
def Q0F : List Nat:=[0,1,2,3,4,5,6,8,11,19,26,27,28,29]
noncomputable def Q3K : Code:=(Try.f14.body).getD .skip
attribute [go_sem] Q3K Q0F Try.f14
abbrev Q7p : Nat:=15
theorem X2r : Enters PP 15:=enters_of Try.func15 (by kernel_rfl) rfl
def Q5K : List (Nat × (List Nat × List Nat × List Nat)):=[]
def Q5Q : List Nat:=[0,1,2]
noncomputable def Q6d : Code:=(Try.f15.body).getD .skip
theorem X3w : Txt PP Q7p Try.f15 Q6d Q5K:=⟨X2r,Try.func15,rfl,by kernel_rfl,by kernel_rfl⟩
attribute [go_sem] Q6d Q5Q Q5K Try.f15
attribute [go_sem] Try.f16
abbrev Q6K : Nat:=17
theorem X5r : Enters PP 17:=enters_of Try.func17 (by kernel_rfl) rfl
def Q9u : List (Nat × (List Nat × List Nat × List Nat)):=[(1,[0,2,1,3,4,5],[],[])]
def Q9E : List Nat:=[0,1,2,3,4,5,6,16]
noncomputable def Q9O : Code:=(Try.f17.body).getD .skip
theorem X7j : Txt PP Q6K Try.f17 Q9O Q9u:=⟨X5r,Try.func17,rfl,by kernel_rfl,by kernel_rfl⟩
attribute [go_sem] Q9O Q9E Q9u Try.f17
attribute [go_sem] Try.f18
abbrev Q6L : Nat:=19
theorem X5u : Enters PP 19:=enters_of Try.func19 (by kernel_rfl) rfl
def Q9x : List (Nat × (List Nat × List Nat × List Nat)):=[(3,[0,2,3,1,4,5,6,7,8],[],[])]
def Q5x : List Nat:=[0,1,2,3,5]
noncomputable def Q9R : Code:=(Try.f19.body).getD .skip
theorem X1J : Txt PP Q6L Try.f19 Q9R Q9x:=⟨X5u,Try.func19,rfl,by kernel_rfl,by kernel_rfl⟩
attribute [go_sem] Q9R Q5x Q9x Try.f19
abbrev Q4E : Nat:=20
theorem X3q : Enters PP 20:=enters_of Try.func20 (by kernel_rfl) rfl
def Q6T : List (Nat × (List Nat × List Nat × List Nat)):=[(3,[0,2,3,1,4,5,6,7,8],[],[])]
def Q3p : List Nat:=[0,1,2,3,5]
noncomputable def Q7k : Code:=(Try.f20.body).getD .skip
theorem Q8x : Txt PP Q4E Try.f20 Q7k Q6T:=⟨X3q,Try.func20,rfl,by kernel_rfl,by kernel_rfl⟩
attribute [go_sem] Q7k Q3p Q6T Try.f20
attribute [go_sem] Try.f21
attribute [go_sem] Try.f22
abbrev Q1Q : Nat:=23
theorem Q9a : Enters PP 23:=enters_of Try.func23 (by kernel_rfl) rfl
def Q3z : List Nat:=[0,2,3,4,5,6,7,8,9,10,11,12,27,54,60]
noncomputable def Q3G : Code:=(Try.f23.body).getD .skip
attribute [go_sem] Q3G Q3z Try.f23
abbrev Q2x : Nat:=24
theorem X0m : Enters PP 24:=enters_of Try.func24 (by kernel_rfl) rfl
def Q4b : List (Nat × (List Nat × List Nat × List Nat)):=[]
def Q4k : List Nat:=[0,1,2,4,5,6,7,10,20]
noncomputable def Q4u : Code:=(Try.f24.body).getD .skip
theorem X1I : Txt PP Q2x Try.f24 Q4u Q4b:=⟨X0m,Try.func24,rfl,by kernel_rfl,by kernel_rfl⟩
attribute [go_sem] Q4u Q4k Q4b Try.f24
attribute [go_sem] Try.f25
abbrev Q5D : Nat:=26
theorem X4G : Enters PP 26:=enters_of Try.func26 (by kernel_rfl) rfl
def Q7Q : List (Nat × (List Nat × List Nat × List Nat)):=[]
def Q8c : List Nat:=[0,1,2,4,5,6,7,10,20]
noncomputable def Q8s : Code:=(Try.f26.body).getD .skip
theorem X5D : Txt PP Q5D Try.f26 Q8s Q7Q:=⟨X4G,Try.func26,rfl,by kernel_rfl,by kernel_rfl⟩
attribute [go_sem] Q8s Q8c Q7Q Try.f26
abbrev Q2y : Nat:=27
theorem X0n : Enters PP 27:=enters_of Try.func27 (by kernel_rfl) rfl
def Q4c : List (Nat × (List Nat × List Nat × List Nat)):=[(7,[0,1,2,3,4,5,6,7,8,9,10,11,12,13,14,15],[],[23])]
def Q1O : List Nat:=[0,1,2,3,4,5,7,13,14,15,16]
noncomputable def Q4v : Code:=(Try.f27.body).getD .skip
theorem Q5p : Txt PP Q2y Try.f27 Q4v Q4c:=⟨X0n,Try.func27,rfl,by kernel_rfl,by kernel_rfl⟩
attribute [go_sem] Q4v Q1O Q4c Try.f27
abbrev Q1H : Nat:=28
theorem Q8h : Enters PP 28:=enters_of Try.func28 (by kernel_rfl) rfl
def Q2W : List (Nat × (List Nat × List Nat × List Nat)):=[]
def Q1v : List Nat:=[0,1,2,3,4,5,6,8,18,19,20,21]
noncomputable def Q3j : Code:=(Try.f28.body).getD .skip
theorem Q3O : Txt PP Q1H Try.f28 Q3j Q2W:=⟨Q8h,Try.func28,rfl,by kernel_rfl,by kernel_rfl⟩
attribute [go_sem] Q3j Q1v Q2W Try.f28
abbrev X1T : Nat:=29
theorem X5t : Enters PP 29:=enters_of Try.func29 (by kernel_rfl) rfl
def Q9w : List (Nat × (List Nat × List Nat × List Nat)):=[]
def Q9G : List Nat:=[0,1,2,4,5,6,9]
noncomputable def Q9Q : Code:=(Try.f29.body).getD .skip
theorem X7l : Txt PP X1T Try.f29 Q9Q Q9w:=⟨X5t,Try.func29,rfl,by kernel_rfl,by kernel_rfl⟩
attribute [go_sem] Q9Q Q9G Q9w Try.f29
abbrev Q8F : Nat:=30
theorem X3o : Enters PP 30:=enters_of Try.func30 (by kernel_rfl) rfl
def Q6R : List (Nat × (List Nat × List Nat × List Nat)):=[]
def Q6Z : List Nat:=[0,1,2,4,5,6,7,10,24]
noncomputable def Q7i : Code:=(Try.f30.body).getD .skip
theorem X4V : Txt PP Q8F Try.f30 Q7i Q6R:=⟨X3o,Try.func30,rfl,by kernel_rfl,by kernel_rfl⟩
attribute [go_sem] Q7i Q6Z Q6R Try.f30
abbrev Q9Y : Nat:=31
theorem X4E : Enters PP 31:=enters_of Try.func31 (by kernel_rfl) rfl
def Q7O : List (Nat × (List Nat × List Nat × List Nat)):=[]
def Q8a : List Nat:=[0,1,2,3,7]
noncomputable def Q8q : Code:=(Try.f31.body).getD .skip
theorem X5B : Txt PP Q9Y Try.f31 Q8q Q7O:=⟨X4E,Try.func31,rfl,by kernel_rfl,by kernel_rfl⟩
attribute [go_sem] Q8q Q8a Q7O Try.f31
abbrev Q2w : Nat:=32
theorem X0h : Enters PP 32:=enters_of Try.func32 (by kernel_rfl) rfl
def Q3W : List (Nat × (List Nat × List Nat × List Nat)):=[(8,[0,1,2,3,4,5,6,7,8,9,10,12,13,14,15,11,16,17,18],[],[])]
def Q4f : List Nat:=[0,1,2,4,5,6,7,11,24,47]
noncomputable def Q4p : Code:=(Try.f32.body).getD .skip
theorem X1E : Txt PP Q2w Try.f32 Q4p Q3W:=⟨X0h,Try.func32,rfl,by kernel_rfl,by kernel_rfl⟩
attribute [go_sem] Q4p Q4f Q3W Try.f32
abbrev Q4F : Nat:=33
theorem X3r : Enters PP 33:=enters_of Try.func33 (by kernel_rfl) rfl
def Q6U : List (Nat × (List Nat × List Nat × List Nat)):=[]
def Q7b : List Nat:=[0,1,2,4,17]
noncomputable def Q7l : Code:=(Try.f33.body).getD .skip
theorem X4X : Txt PP Q4F Try.f33 Q7l Q6U:=⟨X3r,Try.func33,rfl,by kernel_rfl,by kernel_rfl⟩
attribute [go_sem] Q7l Q7b Q6U Try.f33
attribute [go_sem] Try.f34
attribute [go_sem] Try.f35
attribute [go_sem] Try.f36
attribute [go_sem] Try.f37
attribute [go_sem] Try.f38
attribute [go_sem] Try.f39
abbrev Q2c : Nat:=40
theorem X6W : Enters PP 40:=enters_of Try.func40 (by kernel_rfl) rfl
def X1a : List Nat:=[0,2,3,4,5,6,7,8,9,10,11,12,13,14,15,34,35,36,48,51,52,53,54,117,118,119,138,149,150,151,152,175,181,182,183]
noncomputable def X1A : Code:=(Try.f40.body).getD .skip
attribute [go_sem] X1A X1a Try.f40
attribute [go_sem] Try.f41
attribute [go_sem] Try.f42
abbrev Q6H : Nat:=43
theorem X5m : Enters PP 43:=enters_of Try.func43 (by kernel_rfl) rfl
def Q9p : List (Nat × (List Nat × List Nat × List Nat)):=[]
def Q9A : List Nat:=[0,2,3,4,15]
noncomputable def Q9J : Code:=(Try.f43.body).getD .skip
theorem X7f : Txt PP Q6H Try.f43 Q9J Q9p:=⟨X5m,Try.func43,rfl,by kernel_rfl,by kernel_rfl⟩
attribute [go_sem] Q9J Q9A Q9p Try.f43
abbrev Q1y : Nat:=44
theorem X6T : Enters PP 44:=enters_of Try.func44 (by kernel_rfl) rfl
def X0M : List (Nat × (List Nat × List Nat × List Nat)):=[]
def Q3R : List Nat:=[0,2,3,4,5,6,7,8,9,10,11,12,13,14,15,22,37,41,42,43,59,60,61,71,72,73,74,102,103,104,105]
noncomputable def X1x : Code:=(Try.f44.body).getD .skip
theorem Q8u : Txt PP Q1y Try.f44 X1x X0M:=⟨X6T,Try.func44,rfl,by kernel_rfl,by kernel_rfl⟩
attribute [go_sem] X1x Q3R X0M Try.f44
abbrev Q1x : Nat:=45
theorem X6S : Enters PP 45:=enters_of Try.func45 (by kernel_rfl) rfl
def X0L : List (Nat × (List Nat × List Nat × List Nat)):=[(3,[0,1,2,3,5,6,7,8,4,9,10,11],[],[])]
def Q2o : List Nat:=[0,2,4]
noncomputable def X1w : Code:=(Try.f45.body).getD .skip
theorem Q5n : Txt PP Q1x Try.f45 X1w X0L:=⟨X6S,Try.func45,rfl,by kernel_rfl,by kernel_rfl⟩
attribute [go_sem] X1w Q2o X0L Try.f45
abbrev X6i : Nat:=46
theorem X9g : Enters PP 46:=enters_of Try.func46 (by kernel_rfl) rfl
def X4d : List (Nat × (List Nat × List Nat × List Nat)):=[]
def X4m : List Nat:=[0,2,17]
noncomputable def X4M : Code:=(Try.f46.body).getD .skip
theorem Y1m : Txt PP X6i Try.f46 X4M X4d:=⟨X9g,Try.func46,rfl,by kernel_rfl,by kernel_rfl⟩
attribute [go_sem] X4M X4m X4d Try.f46
abbrev Q6j : Nat:=47
theorem X1o : Enters PP 47:=enters_of Try.func47 (by kernel_rfl) rfl
def Q4T : List (Nat × (List Nat × List Nat × List Nat)):=[]
def Q5a : List Nat:=[0,2]
noncomputable def Q5j : Code:=(Try.f47.body).getD .skip
theorem X2A : Txt PP Q6j Try.f47 Q5j Q4T:=⟨X1o,Try.func47,rfl,by kernel_rfl,by kernel_rfl⟩
attribute [go_sem] Q5j Q5a Q4T Try.f47
attribute [go_sem] Try.f48
abbrev Q6J : Nat:=49
theorem X8j : Enters PP 49:=enters_of Try.func49 (by kernel_rfl) rfl
def X2L : List (Nat × (List Nat × List Nat × List Nat)):=[]
def X2Q : List Nat:=[0,1,2,5]
noncomputable def X3c : Code:=(Try.f49.body).getD .skip
theorem X9v : Txt PP Q6J Try.f49 X3c X2L:=⟨X8j,Try.func49,rfl,by kernel_rfl,by kernel_rfl⟩
attribute [go_sem] X3c X2Q X2L Try.f49
abbrev Q3r : Nat:=50
theorem X2o : Enters PP 50:=enters_of Try.func50 (by kernel_rfl) rfl
def Q5H : List (Nat × (List Nat × List Nat × List Nat)):=[(1,[0,1,2,3,4,6,7,8,9,10,5,11,12,13],[],[])]
def Q5N : List Nat:=[0,1,4]
noncomputable def Q6a : Code:=(Try.f50.body).getD .skip
theorem X3t : Txt PP Q3r Try.f50 Q6a Q5H:=⟨X2o,Try.func50,rfl,by kernel_rfl,by kernel_rfl⟩
attribute [go_sem] Q6a Q5N Q5H Try.f50
attribute [go_sem] Try.f51
abbrev Q7o : Nat:=52
theorem X2q : Enters PP 52:=enters_of Try.func52 (by kernel_rfl) rfl
def Q5J : List (Nat × (List Nat × List Nat × List Nat)):=[]
def Q5P : List Nat:=[0,2]
noncomputable def Q6c : Code:=(Try.f52.body).getD .skip
theorem X3v : Txt PP Q7o Try.f52 Q6c Q5J:=⟨X2q,Try.func52,rfl,by kernel_rfl,by kernel_rfl⟩
attribute [go_sem] Q6c Q5P Q5J Try.f52
abbrev Q5s : Nat:=53
theorem X0k : Enters PP 53:=enters_of Try.func53 (by kernel_rfl) rfl
def Q3Z : List (Nat × (List Nat × List Nat × List Nat)):=[]
def Q1N : List Nat:=[0,1,2,4,5,6,7,8,9,10,15,23,27,28,29]
noncomputable def Q4s : Code:=(Try.f53.body).getD .skip
theorem Q5o : Txt PP Q5s Try.f53 Q4s Q3Z:=⟨X0k,Try.func53,rfl,by kernel_rfl,by kernel_rfl⟩
attribute [go_sem] Q4s Q1N Q3Z Try.f53
abbrev Q5B : Nat:=54
theorem X4z : Enters PP 54:=enters_of Try.func54 (by kernel_rfl) rfl
def Q7J : List (Nat × (List Nat × List Nat × List Nat)):=[]
def Q4i : List Nat:=[0,1,4,5,9]
noncomputable def Q8l : Code:=(Try.f54.body).getD .skip
theorem Q9S : Txt PP Q5B Try.f54 Q8l Q7J:=⟨X4z,Try.func54,rfl,by kernel_rfl,by kernel_rfl⟩
attribute [go_sem] Q8l Q4i Q7J Try.f54
attribute [go_sem] Try.f55
attribute [go_sem] Try.f56
abbrev Q1z : Nat:=57
theorem X1m : Enters PP 57:=enters_of Try.func57 (by kernel_rfl) rfl
def Q4R : List (Nat × (List Nat × List Nat × List Nat)):=[]
def Q4Y : List Nat:=[0,2]
noncomputable def Q5h : Code:=(Try.f57.body).getD .skip
theorem X2x : Txt PP Q1z Try.f57 Q5h Q4R:=⟨X1m,Try.func57,rfl,by kernel_rfl,by kernel_rfl⟩
attribute [go_sem] Q5h Q4Y Q4R Try.f57
abbrev Q4A : Nat:=58
theorem X3n : Enters PP 58:=enters_of Try.func58 (by kernel_rfl) rfl
def Q6Q : List (Nat × (List Nat × List Nat × List Nat)):=[(5,[0,1,3,4,5,6,2,7,8,9],[],[])]
def Q6Y : List Nat:=[0,1,4,5,6,7,9,10,11,12]
noncomputable def Q7h : Code:=(Try.f58.body).getD .skip
theorem X4S : Txt PP Q4A Try.f58 Q7h Q6Q:=⟨X3n,Try.func58,rfl,by kernel_rfl,by kernel_rfl⟩
attribute [go_sem] Q7h Q6Y Q6Q Try.f58
abbrev Q1n : Nat:=59
theorem X0l : Enters PP 59:=enters_of Try.func59 (by kernel_rfl) rfl
def Q4a : List (Nat × (List Nat × List Nat × List Nat)):=[]
def Q1d : List Nat:=[0,1,4]
noncomputable def Q4t : Code:=(Try.f59.body).getD .skip
theorem Q2v : Txt PP Q1n Try.f59 Q4t Q4a:=⟨X0l,Try.func59,rfl,by kernel_rfl,by kernel_rfl⟩
attribute [go_sem] Q4t Q1d Q4a Try.f59
abbrev X3h : Nat:=60
theorem X6Q : Enters PP 60:=enters_of Try.func60 (by kernel_rfl) rfl
def X0J : List (Nat × (List Nat × List Nat × List Nat)):=[]
def X0Y : List Nat:=[0,2]
noncomputable def X1u : Code:=(Try.f60.body).getD .skip
theorem X8v : Txt PP X3h Try.f60 X1u X0J:=⟨X6Q,Try.func60,rfl,by kernel_rfl,by kernel_rfl⟩
attribute [go_sem] X1u X0Y X0J Try.f60
abbrev Q8B : Nat:=61
theorem X3l : Enters PP 61:=enters_of Try.func61 (by kernel_rfl) rfl
def Q6O : List (Nat × (List Nat × List Nat × List Nat)):=[]
def Q6W : List Nat:=[0,1,4,5,6,7,8,10,12]
noncomputable def Q7f : Code:=(Try.f61.body).getD .skip
theorem X4Q : Txt PP Q8B Try.f61 Q7f Q6O:=⟨X3l,Try.func61,rfl,by kernel_rfl,by kernel_rfl⟩
attribute [go_sem] Q7f Q6W Q6O Try.f61
abbrev Q6e : Nat:=62
theorem X1k : Enters PP 62:=enters_of Try.func62 (by kernel_rfl) rfl
def Q4P : List (Nat × (List Nat × List Nat × List Nat)):=[]
def Q4W : List Nat:=[0,2]
noncomputable def Q5f : Code:=(Try.f62.body).getD .skip
theorem X2u : Txt PP Q6e Try.f62 Q5f Q4P:=⟨X1k,Try.func62,rfl,by kernel_rfl,by kernel_rfl⟩
attribute [go_sem] Q5f Q4W Q4P Try.f62
abbrev X5c : Nat:=63
theorem X8f : Enters PP 63:=enters_of Try.func63 (by kernel_rfl) rfl
def X2H : List (Nat × (List Nat × List Nat × List Nat)):=[]
def Q7W : List Nat:=[0,2,3,5]
noncomputable def X2Y : Code:=(Try.f63.body).getD .skip
theorem X4U : Txt PP X5c Try.f63 X2Y X2H:=⟨X8f,Try.func63,rfl,by kernel_rfl,by kernel_rfl⟩
attribute [go_sem] X2Y Q7W X2H Try.f63
attribute [go_sem] Try.f64
abbrev Q6i : Nat:=65
theorem X1n : Enters PP 65:=enters_of Try.func65 (by kernel_rfl) rfl
def Q4S : List (Nat × (List Nat × List Nat × List Nat)):=[(1,[0,1,2,3,4,5,6,7,8,9,10,11,12,13,14,15,16,17,18,19,20,21,22,23,24,25],[34,7],[])]
def Q4Z : List Nat:=[0,1,2,6,7,8,9,10,11,50,51,52,58,59,60,61]
noncomputable def Q5i : Code:=(Try.f65.body).getD .skip
theorem X2z : Txt PP Q6i Try.f65 Q5i Q4S:=⟨X1n,Try.func65,rfl,by kernel_rfl,by kernel_rfl⟩
attribute [go_sem] Q5i Q4Z Q4S Try.f65
abbrev Q3k : Nat:=66
theorem Q7q : Enters PP 66:=enters_of Try.func66 (by kernel_rfl) rfl
def Q2z : List (Nat × (List Nat × List Nat × List Nat)):=[]
def Q2E : List Nat:=[0,1,2,6,7,8,12,13,14,31]
noncomputable def Q2I : Code:=(Try.f66.body).getD .skip
theorem Q8v : Txt PP Q3k Try.f66 Q2I Q2z:=⟨Q7q,Try.func66,rfl,by kernel_rfl,by kernel_rfl⟩
attribute [go_sem] Q2I Q2E Q2z Try.f66
abbrev Q4D : Nat:=67
theorem X3p : Enters PP 67:=enters_of Try.func67 (by kernel_rfl) rfl
def Q6S : List (Nat × (List Nat × List Nat × List Nat)):=[]
def Q7a : List Nat:=[0,1,3]
noncomputable def Q7j : Code:=(Try.f67.body).getD .skip
theorem X4W : Txt PP Q4D Try.f67 Q7j Q6S:=⟨X3p,Try.func67,rfl,by kernel_rfl,by kernel_rfl⟩
attribute [go_sem] Q7j Q7a Q6S Try.f67
abbrev Q2R : Nat:=68
theorem X1q : Enters PP 68:=enters_of Try.func68 (by kernel_rfl) rfl
def Q4V : List (Nat × (List Nat × List Nat × List Nat)):=[]
def Q5c : List Nat:=[2]
noncomputable def Q5l : Code:=(Try.f68.body).getD .skip
theorem X2D : Txt PP Q2R Try.f68 Q5l Q4V:=⟨X1q,Try.func68,rfl,by kernel_rfl,by kernel_rfl⟩
attribute [go_sem] Q5l Q5c Q4V Try.f68
abbrev Q6l : Nat:=69
theorem X1p : Enters PP 69:=enters_of Try.func69 (by kernel_rfl) rfl
def Q4U : List (Nat × (List Nat × List Nat × List Nat)):=[]
def Q5b : List Nat:=[0,2]
noncomputable def Q5k : Code:=(Try.f69.body).getD .skip
theorem X2C : Txt PP Q6l Try.f69 Q5k Q4U:=⟨X1p,Try.func69,rfl,by kernel_rfl,by kernel_rfl⟩
attribute [go_sem] Q5k Q5b Q4U Try.f69
abbrev X1S : Nat:=70
theorem X5s : Enters PP 70:=enters_of Try.func70 (by kernel_rfl) rfl
def Q9v : List (Nat × (List Nat × List Nat × List Nat)):=[(1,[0,2,1,3,4,5,6],[],[])]
def Q9F : List Nat:=[0,1,2,3,4]
noncomputable def Q9P : Code:=(Try.f70.body).getD .skip
theorem X7k : Txt PP X1S Try.f70 Q9P Q9v:=⟨X5s,Try.func70,rfl,by kernel_rfl,by kernel_rfl⟩
attribute [go_sem] Q9P Q9F Q9v Try.f70
abbrev X1R : Nat:=71
theorem X5q : Enters PP 71:=enters_of Try.func71 (by kernel_rfl) rfl
def Q9t : List (Nat × (List Nat × List Nat × List Nat)):=[(1,[0,2,1,3,4,5,6],[],[])]
def Q9D : List Nat:=[0,1,2,3,4]
noncomputable def Q9N : Code:=(Try.f71.body).getD .skip
theorem X7i : Txt PP X1R Try.f71 Q9N Q9t:=⟨X5q,Try.func71,rfl,by kernel_rfl,by kernel_rfl⟩
attribute [go_sem] Q9N Q9D Q9t Try.f71
abbrev Q3l : Nat:=72
theorem Q7r : Enters PP 72:=enters_of Try.func72 (by kernel_rfl) rfl
def Q2A : List (Nat × (List Nat × List Nat × List Nat)):=[]
def Q2F : List Nat:=[0,1,4,5,6,13,14,15]
noncomputable def Q2J : Code:=(Try.f72.body).getD .skip
theorem Q8w : Txt PP Q3l Try.f72 Q2J Q2A:=⟨Q7r,Try.func72,rfl,by kernel_rfl,by kernel_rfl⟩
attribute [go_sem] Q2J Q2F Q2A Try.f72
attribute [go_sem] Try.f73
attribute [go_sem] Try.f74
attribute [go_sem] Try.f75
attribute [go_sem] Try.f76
attribute [go_sem] Try.f77
attribute [go_sem] Try.f78
attribute [go_sem] Try.f79
attribute [go_sem] Try.f80
attribute [go_sem] Try.f81
abbrev Q9W : Nat:=82
theorem X4B : Enters PP 82:=enters_of Try.func82 (by kernel_rfl) rfl
def Q7L : List (Nat × (List Nat × List Nat × List Nat)):=[]
def Q7Y : List Nat:=[0,2,4]
noncomputable def Q8n : Code:=(Try.f82.body).getD .skip
theorem X5z : Txt PP Q9W Try.f82 Q8n Q7L:=⟨X4B,Try.func82,rfl,by kernel_rfl,by kernel_rfl⟩
attribute [go_sem] Q8n Q7Y Q7L Try.f82
abbrev Q0q : Nat:=83
theorem Q5Y : Enters PP 83:=enters_of Try.func83 (by kernel_rfl) rfl
def Q1W : List (Nat × (List Nat × List Nat × List Nat)):=[]
def Q1Y : List Nat:=[0,1,4,5,6,7,8,9,13,14,15,39,44,53,54,55,79]
noncomputable def Q2b : Code:=(Try.f83.body).getD .skip
theorem Q6G : Txt PP Q0q Try.f83 Q2b Q1W:=⟨Q5Y,Try.func83,rfl,by kernel_rfl,by kernel_rfl⟩
attribute [go_sem] Q2b Q1Y Q1W Try.f83
abbrev Q5t : Nat:=84
theorem X0o : Enters PP 84:=enters_of Try.func84 (by kernel_rfl) rfl
def Q4d : List (Nat × (List Nat × List Nat × List Nat)):=[]
def Q4l : List Nat:=[0,1,2,3,8]
noncomputable def Q4w : Code:=(Try.f84.body).getD .skip
theorem X1K : Txt PP Q5t Try.f84 Q4w Q4d:=⟨X0o,Try.func84,rfl,by kernel_rfl,by kernel_rfl⟩
attribute [go_sem] Q4w Q4l Q4d Try.f84
abbrev Q1G : Nat:=85
theorem Q8g : Enters PP 85:=enters_of Try.func85 (by kernel_rfl) rfl
def Q3c : List Nat:=[0,1,4,5,12,21,40,45]
noncomputable def Q3i : Code:=(Try.f85.body).getD .skip
attribute [go_sem] Q3i Q3c Try.f85
attribute [go_sem] Try.f86
abbrev X1Q : Nat:=87
theorem X5p : Enters PP 87:=enters_of Try.func87 (by kernel_rfl) rfl
def Q9s : List (Nat × (List Nat × List Nat × List Nat)):=[]
def Q9C : List Nat:=[0,1,2,4,5,6,8,13,24]
noncomputable def Q9M : Code:=(Try.f87.body).getD .skip
theorem X7h : Txt PP X1Q Try.f87 Q9M Q9s:=⟨X5p,Try.func87,rfl,by kernel_rfl,by kernel_rfl⟩
attribute [go_sem] Q9M Q9C Q9s Try.f87
abbrev Q6g : Nat:=88
theorem X1l : Enters PP 88:=enters_of Try.func88 (by kernel_rfl) rfl
def Q4Q : List (Nat × (List Nat × List Nat × List Nat)):=[(1,[0,1,2,3,4,6,7,8,9,10,13,14,15,16,17,18,19,20,5,11,12,21,22,23],[],[])]
def Q4X : List Nat:=[0,1,4]
noncomputable def Q5g : Code:=(Try.f88.body).getD .skip
theorem X2w : Txt PP Q6g Try.f88 Q5g Q4Q:=⟨X1l,Try.func88,rfl,by kernel_rfl,by kernel_rfl⟩
attribute [go_sem] Q5g Q4X Q4Q Try.f88
abbrev Q5q : Nat:=89
theorem X0i : Enters PP 89:=enters_of Try.func89 (by kernel_rfl) rfl
def Q3X : List (Nat × (List Nat × List Nat × List Nat)):=[(1,[0,1,2,3,4,5,6,7,9,10,11,12,13,14,15,16,8,17,18,19],[],[])]
def Q4g : List Nat:=[0,1,4]
noncomputable def Q4q : Code:=(Try.f89.body).getD .skip
theorem X1G : Txt PP Q5q Try.f89 Q4q Q3X:=⟨X0i,Try.func89,rfl,by kernel_rfl,by kernel_rfl⟩
attribute [go_sem] Q4q Q4g Q3X Try.f89
abbrev Q1T : Nat:=90
theorem Q9h : Enters PP 90:=enters_of Try.func90 (by kernel_rfl) rfl
def Q3y : List (Nat × (List Nat × List Nat × List Nat)):=[]
def Q1E : List Nat:=[0,1,2,6]
noncomputable def Q3N : Code:=(Try.f90.body).getD .skip
theorem Q4y : Txt PP Q1T Try.f90 Q3N Q3y:=⟨Q9h,Try.func90,rfl,by kernel_rfl,by kernel_rfl⟩
attribute [go_sem] Q3N Q1E Q3y Try.f90
abbrev Q1l : Nat:=91
theorem Q6C : Enters PP 91:=enters_of Try.func91 (by kernel_rfl) rfl
def Q2i : List (Nat × (List Nat × List Nat × List Nat)):=[]
def Q0n : List Nat:=[0,2,4]
noncomputable def Q2s : Code:=(Try.f91.body).getD .skip
theorem Q0t : Txt PP Q1l Try.f91 Q2s Q2i:=⟨Q6C,Try.func91,rfl,by kernel_rfl,by kernel_rfl⟩
attribute [go_sem] Q2s Q0n Q2i Try.f91
abbrev Q0E : Nat:=92
theorem Q3f : Enters PP 92:=enters_of Try.func92 (by kernel_rfl) rfl
def Q0Y : List (Nat × (List Nat × List Nat × List Nat)):=[]
def Q0Z : List Nat:=[0,1,4]
noncomputable def Q1a : Code:=(Try.f92.body).getD .skip
theorem Q3q : Txt PP Q0E Try.f92 Q1a Q0Y:=⟨Q3f,Try.func92,rfl,by kernel_rfl,by kernel_rfl⟩
attribute [go_sem] Q1a Q0Z Q0Y Try.f92
abbrev Q1R : Nat:=93
theorem Q9d : Enters PP 93:=enters_of Try.func93 (by kernel_rfl) rfl
def Q3v : List (Nat × (List Nat × List Nat × List Nat)):=[]
def Q3C : List Nat:=[0,2]
noncomputable def Q3J : Code:=(Try.f93.body).getD .skip
theorem X0v : Txt PP Q1R Try.f93 Q3J Q3v:=⟨Q9d,Try.func93,rfl,by kernel_rfl,by kernel_rfl⟩
attribute [go_sem] Q3J Q3C Q3v Try.f93
abbrev X3j : Nat:=94
theorem X6X : Enters PP 94:=enters_of Try.func94 (by kernel_rfl) rfl
def X0P : List (Nat × (List Nat × List Nat × List Nat)):=[]
def X1b : List Nat:=[0,1,2,31]
noncomputable def X1B : Code:=(Try.f94.body).getD .skip
theorem X8x : Txt PP X3j Try.f94 X1B X0P:=⟨X6X,Try.func94,rfl,by kernel_rfl,by kernel_rfl⟩
attribute [go_sem] X1B X1b X0P Try.f94
abbrev Q4C : Nat:=95
theorem Q9c : Enters PP 95:=enters_of Try.func95 (by kernel_rfl) rfl
def Q3u : List (Nat × (List Nat × List Nat × List Nat)):=[]
def Q3B : List Nat:=[0,1,4]
noncomputable def Q3I : Code:=(Try.f95.body).getD .skip
theorem X0u : Txt PP Q4C Try.f95 Q3I Q3u:=⟨Q9c,Try.func95,rfl,by kernel_rfl,by kernel_rfl⟩
attribute [go_sem] Q3I Q3B Q3u Try.f95
abbrev Q3n : Nat:=96
theorem Q7t : Enters PP 96:=enters_of Try.func96 (by kernel_rfl) rfl
def Q2C : List (Nat × (List Nat × List Nat × List Nat)):=[]
def Q2H : List Nat:=[0,1,2,3,4,5,15,21]
noncomputable def Q2L : Code:=(Try.f96.body).getD .skip
theorem Q8z : Txt PP Q3n Try.f96 Q2L Q2C:=⟨Q7t,Try.func96,rfl,by kernel_rfl,by kernel_rfl⟩
attribute [go_sem] Q2L Q2H Q2C Try.f96
abbrev Q8E : Nat:=97
theorem X6V : Enters PP 97:=enters_of Try.func97 (by kernel_rfl) rfl
def X0O : List (Nat × (List Nat × List Nat × List Nat)):=[]
def Q6t : List Nat:=[0,2,3,4,5,6,10,11,12,13,26]
noncomputable def X1z : Code:=(Try.f97.body).getD .skip
theorem X3f : Txt PP Q8E Try.f97 X1z X0O:=⟨X6V,Try.func97,rfl,by kernel_rfl,by kernel_rfl⟩
attribute [go_sem] X1z Q6t X0O Try.f97
abbrev Q6f : Nat:=98
theorem X9e : Enters PP 98:=enters_of Try.func98 (by kernel_rfl) rfl
def X4b : List (Nat × (List Nat × List Nat × List Nat)):=[]
def Q6r : List Nat:=[0,1,4,10]
noncomputable def X4K : Code:=(Try.f98.body).getD .skip
theorem X2v : Txt PP Q6f Try.f98 X4K X4b:=⟨X9e,Try.func98,rfl,by kernel_rfl,by kernel_rfl⟩
attribute [go_sem] X4K Q6r X4b Try.f98
abbrev X1P : Nat:=99
theorem X5n : Enters PP 99:=enters_of Try.func99 (by kernel_rfl) rfl
def Q9q : List (Nat × (List Nat × List Nat × List Nat)):=[]
def Q9B : List Nat:=[0,2,3,4,5,6,10,11,12,13,18]
noncomputable def Q9K : Code:=(Try.f99.body).getD .skip
theorem X7g : Txt PP X1P Try.f99 Q9K Q9q:=⟨X5n,Try.func99,rfl,by kernel_rfl,by kernel_rfl⟩
attribute [go_sem] Q9K Q9B Q9q Try.f99
attribute [go_sem] Try.f100
abbrev Q6k : Nat:=101
theorem X9h : Enters PP 101:=enters_of Try.func101 (by kernel_rfl) rfl
def X4e : List (Nat × (List Nat × List Nat × List Nat)):=[]
def Q6u : List Nat:=[0,1,4,10]
noncomputable def X4N : Code:=(Try.f101.body).getD .skip
theorem X2B : Txt PP Q6k Try.f101 X4N X4e:=⟨X9h,Try.func101,rfl,by kernel_rfl,by kernel_rfl⟩
attribute [go_sem] X4N Q6u X4e Try.f101
abbrev Q6h : Nat:=102
theorem X9f : Enters PP 102:=enters_of Try.func102 (by kernel_rfl) rfl
def X4c : List (Nat × (List Nat × List Nat × List Nat)):=[]
def Q6s : List Nat:=[0,1,4,10]
noncomputable def X4L : Code:=(Try.f102.body).getD .skip
theorem X2y : Txt PP Q6h Try.f102 X4L X4c:=⟨X9f,Try.func102,rfl,by kernel_rfl,by kernel_rfl⟩
attribute [go_sem] X4L Q6s X4c Try.f102
abbrev Q5A : Nat:=103
theorem X4y : Enters PP 103:=enters_of Try.func103 (by kernel_rfl) rfl
def Q7I : List (Nat × (List Nat × List Nat × List Nat)):=[]
def Q7U : List Nat:=[0,2,3,34]
noncomputable def Q8k : Code:=(Try.f103.body).getD .skip
theorem X5x : Txt PP Q5A Try.f103 Q8k Q7I:=⟨X4y,Try.func103,rfl,by kernel_rfl,by kernel_rfl⟩
attribute [go_sem] Q8k Q7U Q7I Try.f103
abbrev Q8C : Nat:=104
theorem X3m : Enters PP 104:=enters_of Try.func104 (by kernel_rfl) rfl
def Q6P : List (Nat × (List Nat × List Nat × List Nat)):=[]
def Q6X : List Nat:=[0,2,4,8]
noncomputable def Q7g : Code:=(Try.f104.body).getD .skip
theorem X4R : Txt PP Q8C Try.f104 Q7g Q6P:=⟨X3m,Try.func104,rfl,by kernel_rfl,by kernel_rfl⟩
attribute [go_sem] Q7g Q6X Q6P Try.f104
attribute [go_sem] Try.f105
attribute [go_sem] Try.f106
attribute [go_sem] Try.f107
attribute [go_sem] Try.f108
abbrev Q5z : Nat:=109
theorem X4w : Enters PP 109:=enters_of Try.func109 (by kernel_rfl) rfl
def Q7G : List (Nat × (List Nat × List Nat × List Nat)):=[]
def Q7S : List Nat:=[0,1,4,5]
noncomputable def Q8i : Code:=(Try.f109.body).getD .skip
theorem X5v : Txt PP Q5z Try.f109 Q8i Q7G:=⟨X4w,Try.func109,rfl,by kernel_rfl,by kernel_rfl⟩
attribute [go_sem] Q8i Q7S Q7G Try.f109
attribute [go_sem] Try.f110
attribute [go_sem] Try.f111
attribute [go_sem] Try.f112
attribute [go_sem] Try.f113
attribute [go_sem] Try.f114
attribute [go_sem] Try.f115
attribute [go_sem] Try.f116
abbrev Q6I : Nat:=117
theorem X5o : Enters PP 117:=enters_of Try.func117 (by kernel_rfl) rfl
def Q9r : List (Nat × (List Nat × List Nat × List Nat)):=[]
def Q5w : List Nat:=[0,1,4]
noncomputable def Q9L : Code:=(Try.f117.body).getD .skip
theorem X1F : Txt PP Q6I Try.f117 Q9L Q9r:=⟨X5o,Try.func117,rfl,by kernel_rfl,by kernel_rfl⟩
attribute [go_sem] Q9L Q5w Q9r Try.f117
abbrev Q9V : Nat:=118
theorem X4A : Enters PP 118:=enters_of Try.func118 (by kernel_rfl) rfl
def Q7K : List (Nat × (List Nat × List Nat × List Nat)):=[]
def Q7X : List Nat:=[0,2,3,5]
noncomputable def Q8m : Code:=(Try.f118.body).getD .skip
theorem X5y : Txt PP Q9V Try.f118 Q8m Q7K:=⟨X4A,Try.func118,rfl,by kernel_rfl,by kernel_rfl⟩
attribute [go_sem] Q8m Q7X Q7K Try.f118
abbrev Q1K : Nat:=119
theorem Q4I : Enters PP 119:=enters_of Try.func119 (by kernel_rfl) rfl
def Q1A : List (Nat × (List Nat × List Nat × List Nat)):=[]
def Q1B : List Nat:=[0,1,4]
noncomputable def Q1C : Code:=(Try.f119.body).getD .skip
theorem Q5y : Txt PP Q1K Try.f119 Q1C Q1A:=⟨Q4I,Try.func119,rfl,by kernel_rfl,by kernel_rfl⟩
attribute [go_sem] Q1C Q1B Q1A Try.f119
abbrev Q4B : Nat:=120
theorem Q9b : Enters PP 120:=enters_of Try.func120 (by kernel_rfl) rfl
def Q3t : List (Nat × (List Nat × List Nat × List Nat)):=[(1,[0,1,2,3,4,5,6,7,8,9,10,11],[7],[])]
def Q3A : List Nat:=[0,1,2,6,7,8,9,23,24,25,26,48]
noncomputable def Q3H : Code:=(Try.f120.body).getD .skip
theorem X0t : Txt PP Q4B Try.f120 Q3H Q3t:=⟨Q9b,Try.func120,rfl,by kernel_rfl,by kernel_rfl⟩
attribute [go_sem] Q3H Q3A Q3t Try.f120
abbrev Q2O : Nat:=121
theorem Q6D : Enters PP 121:=enters_of Try.func121 (by kernel_rfl) rfl
def Q2j : List (Nat × (List Nat × List Nat × List Nat)):=[(8,[0,1,2,3,4,5,6,7,8,9,10,11,12,13,14,15,16,18,19,20,21,22,23,24,25,26,27,28,29,30,31,32,33,34,17,35,36,37],[],[])]
def Q2n : List Nat:=[0,1,4,5,6,7,8,12,13,14,15,24,26,87]
noncomputable def Q2t : Code:=(Try.f121.body).getD .skip
theorem Q7v : Txt PP Q2O Try.f121 Q2t Q2j:=⟨Q6D,Try.func121,rfl,by kernel_rfl,by kernel_rfl⟩
attribute [go_sem] Q2t Q2n Q2j Try.f121
abbrev Q3P : Nat:=122
theorem Q8f : Enters PP 122:=enters_of Try.func122 (by kernel_rfl) rfl
def Q2V : List (Nat × (List Nat × List Nat × List Nat)):=[(10,[0,1,2,3,4,5,6,7],[12],[])]
def Q3b : List Nat:=[0,1,2,6,7,8,9,10,11,12,14,15,30,31,32,33,39,45,46,47,65,98,107,108,109,110,114,115,116]
noncomputable def Q3h : Code:=(Try.f122.body).getD .skip
theorem Q9i : Txt PP Q3P Try.f122 Q3h Q2V:=⟨Q8f,Try.func122,rfl,by kernel_rfl,by kernel_rfl⟩
attribute [go_sem] Q3h Q3b Q2V Try.f122
abbrev Q5C : Nat:=123
theorem X4C : Enters PP 123:=enters_of Try.func123 (by kernel_rfl) rfl
def Q7M : List (Nat × (List Nat × List Nat × List Nat)):=[]
def Q4j : List Nat:=[0,1,4,6,9]
noncomputable def Q8o : Code:=(Try.f123.body).getD .skip
theorem Q9T : Txt PP Q5C Try.f123 Q8o Q7M:=⟨X4C,Try.func123,rfl,by kernel_rfl,by kernel_rfl⟩
attribute [go_sem] Q8o Q4j Q7M Try.f123
abbrev Q9X : Nat:=124
theorem X4D : Enters PP 124:=enters_of Try.func124 (by kernel_rfl) rfl
def Q7N : List (Nat × (List Nat × List Nat × List Nat)):=[]
def Q7Z : List Nat:=[0,1,4,5,10,15,20,23,33]
noncomputable def Q8p : Code:=(Try.f124.body).getD .skip
theorem X5A : Txt PP Q9X Try.f124 Q8p Q7N:=⟨X4D,Try.func124,rfl,by kernel_rfl,by kernel_rfl⟩
attribute [go_sem] Q8p Q7Z Q7N Try.f124
abbrev X5f : Nat:=125
theorem X8i : Enters PP 125:=enters_of Try.func125 (by kernel_rfl) rfl
def X2K : List (Nat × (List Nat × List Nat × List Nat)):=[(25,[0,2,3,4,1,5,6,7,8,9,10],[],[])]
def X2P : List Nat:=[0,1,4,5,6,7,8,9,10,11,12,13,14,15,16,17,22,27,61,78,131,142,148]
noncomputable def X3b : Code:=(Try.f125.body).getD .skip
theorem X9u : Txt PP X5f Try.f125 X3b X2K:=⟨X8i,Try.func125,rfl,by kernel_rfl,by kernel_rfl⟩
attribute [go_sem] X3b X2P X2K Try.f125
abbrev Q5u : Nat:=126
theorem X0p : Enters PP 126:=enters_of Try.func126 (by kernel_rfl) rfl
def Q4e : List (Nat × (List Nat × List Nat × List Nat)):=[]
def Q4m : List Nat:=[0,1,2,3,4,5,19,33]
noncomputable def Q4x : Code:=(Try.f126.body).getD .skip
theorem X1L : Txt PP Q5u Try.f126 Q4x Q4e:=⟨X0p,Try.func126,rfl,by kernel_rfl,by kernel_rfl⟩
attribute [go_sem] Q4x Q4m Q4e Try.f126
abbrev Q8D : Nat:=127
theorem X6R : Enters PP 127:=enters_of Try.func127 (by kernel_rfl) rfl
def X0K : List (Nat × (List Nat × List Nat × List Nat)):=[]
def Q6q : List Nat:=[0,1,4,5,6,7,8,9,10,11,19,26,27,28,29,33,34,35,36]
noncomputable def X1v : Code:=(Try.f127.body).getD .skip
theorem X3e : Txt PP Q8D Try.f127 X1v X0K:=⟨X6R,Try.func127,rfl,by kernel_rfl,by kernel_rfl⟩
attribute [go_sem] X1v Q6q X0K Try.f127
abbrev Q4G : Nat:=128
theorem Q9f : Enters PP 128:=enters_of Try.func128 (by kernel_rfl) rfl
def Q3w : List (Nat × (List Nat × List Nat × List Nat)):=[]
def Q3D : List Nat:=[0,1,2,3,4]
noncomputable def Q3L : Code:=(Try.f128.body).getD .skip
theorem X0w : Txt PP Q4G Try.f128 Q3L Q3w:=⟨Q9f,Try.func128,rfl,by kernel_rfl,by kernel_rfl⟩
attribute [go_sem] Q3L Q3D Q3w Try.f128
abbrev Q1D : Nat:=129
theorem Q4o : Enters PP 129:=enters_of Try.func129 (by kernel_rfl) rfl
def Q1s : List (Nat × (List Nat × List Nat × List Nat)):=[]
def Q1u : List Nat:=[0,1,4,5,7,8,9,16]
noncomputable def Q1w : Code:=(Try.f129.body).getD .skip
theorem Q4J : Txt PP Q1D Try.f129 Q1w Q1s:=⟨Q4o,Try.func129,rfl,by kernel_rfl,by kernel_rfl⟩
attribute [go_sem] Q1w Q1u Q1s Try.f129
abbrev Q8G : Nat:=130
theorem X3s : Enters PP 130:=enters_of Try.func130 (by kernel_rfl) rfl
def Q6V : List (Nat × (List Nat × List Nat × List Nat)):=[]
def Q7c : List Nat:=[0,1,2]
noncomputable def Q7m : Code:=(Try.f130.body).getD .skip
theorem X4Y : Txt PP Q8G Try.f130 Q7m Q6V:=⟨X3s,Try.func130,rfl,by kernel_rfl,by kernel_rfl⟩
attribute [go_sem] Q7m Q7c Q6V Try.f130
abbrev X3k : Nat:=131
theorem X6Y : Enters PP 131:=enters_of Try.func131 (by kernel_rfl) rfl
def X0Q : List (Nat × (List Nat × List Nat × List Nat)):=[]
def X1c : List Nat:=[0,2,19]
noncomputable def X1C : Code:=(Try.f131.body).getD .skip
theorem X8y : Txt PP X3k Try.f131 X1C X0Q:=⟨X6Y,Try.func131,rfl,by kernel_rfl,by kernel_rfl⟩
attribute [go_sem] X1C X1c X0Q Try.f131
abbrev Q5r : Nat:=132
theorem X0j : Enters PP 132:=enters_of Try.func132 (by kernel_rfl) rfl
def Q3Y : List (Nat × (List Nat × List Nat × List Nat)):=[(1,[0,1,2,3,4,6,7,8,9,10,13,14,15,16,17,18,19,20,5,11,12,21,22,23],[],[])]
def Q4h : List Nat:=[0,1,4]
noncomputable def Q4r : Code:=(Try.f132.body).getD .skip
theorem X1H : Txt PP Q5r Try.f132 Q4r Q3Y:=⟨X0j,Try.func132,rfl,by kernel_rfl,by kernel_rfl⟩
attribute [go_sem] Q4r Q4h Q3Y Try.f132
abbrev X3g : Nat:=133
theorem X6P : Enters PP 133:=enters_of Try.func133 (by kernel_rfl) rfl
def X0I : List (Nat × (List Nat × List Nat × List Nat)):=[]
def X0X : List Nat:=[0,2,3,6]
noncomputable def X1t : Code:=(Try.f133.body).getD .skip
theorem X8u : Txt PP X3g Try.f133 X1t X0I:=⟨X6P,Try.func133,rfl,by kernel_rfl,by kernel_rfl⟩
attribute [go_sem] X1t X0X X0I Try.f133
abbrev Q1m : Nat:=134
theorem Q6E : Enters PP 134:=enters_of Try.func134 (by kernel_rfl) rfl
def Q2k : List (Nat × (List Nat × List Nat × List Nat)):=[]
def Q1e : List Nat:=[0,1,2]
noncomputable def Q2u : Code:=(Try.f134.body).getD .skip
theorem Q2M : Txt PP Q1m Try.f134 Q2u Q2k:=⟨Q6E,Try.func134,rfl,by kernel_rfl,by kernel_rfl⟩
attribute [go_sem] Q2u Q1e Q2k Try.f134
attribute [go_sem] Try.f135
attribute [go_sem] Try.f136
attribute [go_sem] Try.f137
abbrev Q9U : Nat:=138
theorem X4x : Enters PP 138:=enters_of Try.func138 (by kernel_rfl) rfl
def Q7H : List (Nat × (List Nat × List Nat × List Nat)):=[]
def Q7T : List Nat:=[0,2,3,15]
noncomputable def Q8j : Code:=(Try.f138.body).getD .skip
theorem X5w : Txt PP Q9U Try.f138 Q8j Q7H:=⟨X4x,Try.func138,rfl,by kernel_rfl,by kernel_rfl⟩
attribute [go_sem] Q8j Q7T Q7H Try.f138
attribute [go_sem] Try.f139
abbrev X1O : Nat:=140
theorem X5l : Enters PP 140:=enters_of Try.func140 (by kernel_rfl) rfl
def Q9o : List (Nat × (List Nat × List Nat × List Nat)):=[]
def Q9z : List Nat:=[0,2,3,8]
noncomputable def Q9I : Code:=(Try.f140.body).getD .skip
theorem X7e : Txt PP X1O Try.f140 Q9I Q9o:=⟨X5l,Try.func140,rfl,by kernel_rfl,by kernel_rfl⟩
attribute [go_sem] Q9I Q9z Q9o Try.f140
attribute [go_sem] Try.f141
attribute [go_sem] Try.f142
attribute [go_sem] Try.f143
attribute [go_sem] Try.f144
attribute [go_sem] Try.f145
abbrev Q2N : Nat:=146
theorem Q6B : Enters PP 146:=enters_of Try.func146 (by kernel_rfl) rfl
def Q2h : List (Nat × (List Nat × List Nat × List Nat)):=[]
def Q2m : List Nat:=[0,1,4,5,7,8,9,16]
noncomputable def Q2r : Code:=(Try.f146.body).getD .skip
theorem Q7u : Txt PP Q2N Try.f146 Q2r Q2h:=⟨Q6B,Try.func146,rfl,by kernel_rfl,by kernel_rfl⟩
attribute [go_sem] Q2r Q2m Q2h Try.f146
abbrev Q4H : Nat:=147
theorem Q9g : Enters PP 147:=enters_of Try.func147 (by kernel_rfl) rfl
def Q3x : List (Nat × (List Nat × List Nat × List Nat)):=[]
def Q3E : List Nat:=[0,1,2,3,4]
noncomputable def Q3M : Code:=(Try.f147.body).getD .skip
theorem X0x : Txt PP Q4H Try.f147 Q3M Q3x:=⟨Q9g,Try.func147,rfl,by kernel_rfl,by kernel_rfl⟩
attribute [go_sem] Q3M Q3E Q3x Try.f147
abbrev Q3m : Nat:=148
theorem Q7s : Enters PP 148:=enters_of Try.func148 (by kernel_rfl) rfl
def Q2B : List (Nat × (List Nat × List Nat × List Nat)):=[]
def Q2G : List Nat:=[0,1,2,3,4,5]
noncomputable def Q2K : Code:=(Try.f148.body).getD .skip
theorem Q8y : Txt PP Q3m Try.f148 Q2K Q2B:=⟨Q7s,Try.func148,rfl,by kernel_rfl,by kernel_rfl⟩
attribute [go_sem] Q2K Q2G Q2B Try.f148
abbrev Q7n : Nat:=149
theorem X2p : Enters PP 149:=enters_of Try.func149 (by kernel_rfl) rfl
def Q5I : List (Nat × (List Nat × List Nat × List Nat)):=[]
def Q5O : List Nat:=[0,1,4,5,6,7,8,9,17]
noncomputable def Q6b : Code:=(Try.f149.body).getD .skip
theorem X3u : Txt PP Q7n Try.f149 Q6b Q5I:=⟨X2p,Try.func149,rfl,by kernel_rfl,by kernel_rfl⟩
attribute [go_sem] Q6b Q5O Q5I Try.f149
abbrev X5d : Nat:=150
theorem X8g : Enters PP 150:=enters_of Try.func150 (by kernel_rfl) rfl
def X2I : List (Nat × (List Nat × List Nat × List Nat)):=[]
def X2N : List Nat:=[0,1,2,6,7,8,9,10,11,12,13,14,29]
noncomputable def X2Z : Code:=(Try.f150.body).getD .skip
theorem X9s : Txt PP X5d Try.f150 X2Z X2I:=⟨X8g,Try.func150,rfl,by kernel_rfl,by kernel_rfl⟩
attribute [go_sem] X2Z X2N X2I Try.f150
abbrev X5g : Nat:=151
theorem X8k : Enters PP 151:=enters_of Try.func151 (by kernel_rfl) rfl
def X2M : List (Nat × (List Nat × List Nat × List Nat)):=[]
def X2R : List Nat:=[0,1,4,5,6,7,8,9,10,11]
noncomputable def X3d : Code:=(Try.f151.body).getD .skip
theorem X9w : Txt PP X5g Try.f151 X3d X2M:=⟨X8k,Try.func151,rfl,by kernel_rfl,by kernel_rfl⟩
attribute [go_sem] X3d X2R X2M Try.f151
abbrev X0y : Nat:=152
theorem X8e : Enters PP 152:=enters_of Try.func152 (by kernel_rfl) rfl
def X2G : List (Nat × (List Nat × List Nat × List Nat)):=[]
def Q7V : List Nat:=[0,2,14]
noncomputable def X2X : Code:=(Try.f152.body).getD .skip
theorem X4T : Txt PP X0y Try.f152 X2X X2G:=⟨X8e,Try.func152,rfl,by kernel_rfl,by kernel_rfl⟩
attribute [go_sem] X2X Q7V X2G Try.f152
abbrev X5e : Nat:=153
theorem X8h : Enters PP 153:=enters_of Try.func153 (by kernel_rfl) rfl
def X2J : List (Nat × (List Nat × List Nat × List Nat)):=[]
def X2O : List Nat:=[0,1,4,5,6,7,8,13,20,21,22,23,33]
noncomputable def X3a : Code:=(Try.f153.body).getD .skip
theorem X9t : Txt PP X5e Try.f153 X3a X2J:=⟨X8h,Try.func153,rfl,by kernel_rfl,by kernel_rfl⟩
attribute [go_sem] X3a X2O X2J Try.f153
abbrev X3i : Nat:=154
theorem X6U : Enters PP 154:=enters_of Try.func154 (by kernel_rfl) rfl
def X0N : List (Nat × (List Nat × List Nat × List Nat)):=[]
def X0Z : List Nat:=[0,1,4,5,6,7,8,12,13,14,15,25,33]
noncomputable def X1y : Code:=(Try.f154.body).getD .skip
theorem X8w : Txt PP X3i Try.f154 X1y X0N:=⟨X6U,Try.func154,rfl,by kernel_rfl,by kernel_rfl⟩
attribute [go_sem] X1y X0Z X0N Try.f154
abbrev Q2T : Nat:=155
theorem X4F : Enters PP 155:=enters_of Try.func155 (by kernel_rfl) rfl
def Q7P : List (Nat × (List Nat × List Nat × List Nat)):=[]
def Q8b : List Nat:=[0,2]
noncomputable def Q8r : Code:=(Try.f155.body).getD .skip
theorem X5C : Txt PP Q2T Try.f155 Q8r Q7P:=⟨X4F,Try.func155,rfl,by kernel_rfl,by kernel_rfl⟩
attribute [go_sem] Q8r Q8b Q7P Try.f155
attribute [go_sem] Try.f156
attribute [go_sem] Try.f157
end Go.Proofs.Ytchlpclgkhggeaa