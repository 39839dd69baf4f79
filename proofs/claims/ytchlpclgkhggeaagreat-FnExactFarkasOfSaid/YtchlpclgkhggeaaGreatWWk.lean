/- part of the proof -/
import Derived.Test.YtchlpclgkhggeaaGreatWTy
import Derived.Test.YtchlpclgkhggeaaGreatWFc
import Derived.Test.YtchlpclgkhggeaaGreatChecked
namespace Go.Proofs.YtchlpclgkhggeaaGreat
open Go Go.RowKit
set_option linter.unusedVariables false
set_option linter.unusedSimpArgs false
theorem fol : PP.follows .mixedOrders = true:=by kernel_rfl
theorem tx {f : FuncId} {fn : Func} {c : Code} {or : List (Nat × (List Nat × List Nat × List Nat))} (t : Txt PP f fn c or) (ke : List Nat) {args : List V} {r : V} (fz : List (Nat × List Nat)) (ha : Nat.ble args.length fn.ntmps = true) (h : awp PP ⟨ke,fz,or,[],[],0⟩ c (RetS PP fn.results.toList r) ⟨initTm 0 args,[]⟩) : PC PP f args r [] :=
 PC.intro fol (an:=⟨ke,fz,or,[],[],0⟩) t.en t.hf t.hb t.hd t.hw ha h
theorem txe {f : FuncId} {fn : Func} {c : Code} {or : List (Nat × (List Nat × List Nat × List Nat))} (t : Txt PP f fn c or) (ke : List Nat) {args : List V} {r : V} (fz : List (Nat × List Nat)) (en mu : List Nat) (ha : Nat.ble args.length fn.ntmps = true) (h : awp PP ⟨ke,fz,or,en,mu,0⟩ c (RetS PP fn.results.toList r) ⟨initTm 0 args,[]⟩) : PC PP f args r [] :=
 PC.intro fol (an:=⟨ke,fz,or,en,mu,0⟩) t.en t.hf t.hb t.hd t.hw ha h
theorem txg {f : FuncId} {fn : Func} {c : Code} {or : List (Nat × (List Nat × List Nat × List Nat))} (t : Txt PP f fn c or) (ke : List Nat) {args : List V} {r : V} {H0 H1 : List Ob} (n0 : Nat) (fz : List (Nat × List Nat)) (en mu : List Nat) (hn : H0.length = n0) (ha : Nat.ble args.length fn.ntmps = true) (h : awp PP ⟨ke,fz,or,en,mu,n0⟩ c (RetG PP n0 fn.results.toList r H1) ⟨initTm 0 args,H0⟩) : GC PP f args H0 r H1 :=
 GC.intro fol (an:=⟨ke,fz,or,en,mu,n0⟩) t.en t.hf t.hb t.hd t.hw ha hn h
theorem txi {f : FuncId} {fn : Func} {c : Code} {or : List (Nat × (List Nat × List Nat × List Nat))} (t : Txt PP f fn c or) (ke : List Nat) {args : List V} {r : V} {H H1 : List Ob} (fz : List (Nat × List Nat)) (en mu : List Nat) (ha : Nat.ble args.length fn.ntmps = true) (h : awp PP ⟨ke,fz,or,en,mu,H.length⟩ c (RetI PP fn.results.toList r H1) ⟨initTm 0 args,H⟩) : IC PP f args H r H1 :=
 IC.intro fol (an:=⟨ke,fz,or,en,mu,H.length⟩) t.en t.hf t.hb t.hd t.hw ha rfl h
theorem txb {f : FuncId} {fn : Func} {c : Code} {or : List (Nat × (List Nat × List Nat × List Nat))} (t : Txt PP f fn c or) (ke : List Nat) {args : List V} {r : V} {H1 : List Ob} (fz : List (Nat × List Nat)) (en mu : List Nat) (ha : Nat.ble args.length fn.ntmps = true) (h : awp PP ⟨ke,fz,or,en,mu,0⟩ c (RetB PP fn.results.toList r H1) ⟨initTm 0 args,[]⟩) : PB PP f args r H1 :=
 PB.intro fol (an:=⟨ke,fz,or,en,mu,0⟩) t.en t.hf t.hb t.hd t.hw ha rfl h
abbrev T_int : Nat:=3
abbrev X8F : Nat:=4
abbrev Q1F : Nat:=22
abbrev Q1O : Nat:=24
abbrev Q0c : Nat:=26
abbrev Q0X : Nat:=28
abbrev Q0m : Nat:=30
abbrev Q1p : Nat:=32
abbrev Q0f : Nat:=34
abbrev Q1b : Nat:=49
abbrev Q0a : Nat:=71
abbrev Q4D : Nat:=77
abbrev Q0i : Nat:=80
abbrev Q0b : Nat:=83
attribute [go_sem] Tryz.f3
attribute [go_sem] Tryz.f4
attribute [go_sem] Tryz.f5
abbrev Q0y : Nat:=6
theorem Q6C : Enters PP 6:=enters_of Tryz.func6 (by kernel_rfl) rfl
def Q2j : List (Nat × (List Nat × List Nat × List Nat)):=[]
def Q2q : List Nat:=[0,1,2,3,4,5,6,7,8,9,10,11,12,13,18,40,45,61,69,72,87,92,95]
noncomputable def Q2w : Code:=(Tryz.f6.body).getD .skip
theorem Q8e : Txt PP Q0y Tryz.f6 Q2w Q2j:=⟨Q6C,Tryz.func6,rfl,by kernel_rfl,by kernel_rfl⟩
attribute [go_sem] Q2w Q2q Q2j Tryz.f6
abbrev Q7U : Nat:=7
theorem X5j : Enters PP 7:=enters_of Tryz.func7 (by kernel_rfl) rfl
def Q5C : List (Nat × (List Nat × List Nat × List Nat)):=[]
def Q5N : List Nat:=[0,1,2,4,10,16,22]
noncomputable def Q6c : Code:=(Tryz.f7.body).getD .skip
theorem X6E : Txt PP Q7U Tryz.f7 Q6c Q5C:=⟨X5j,Tryz.func7,rfl,by kernel_rfl,by kernel_rfl⟩
attribute [go_sem] Q6c Q5N Q5C Tryz.f7
attribute [go_sem] Tryz.f8
abbrev Q3w : Nat:=9
theorem X5i : Enters PP 9:=enters_of Tryz.func9 (by kernel_rfl) rfl
def Q5B : List (Nat × (List Nat × List Nat × List Nat)):=[]
def Q2P : List Nat:=[0,1,2,3]
noncomputable def Q6b : Code:=(Tryz.f9.body).getD .skip
theorem Q7R : Txt PP Q3w Tryz.f9 Q6b Q5B:=⟨X5i,Tryz.func9,rfl,by kernel_rfl,by kernel_rfl⟩
attribute [go_sem] Q6b Q2P Q5B Tryz.f9
abbrev Q1X : Nat:=10
theorem X0j : Enters PP 10:=enters_of Tryz.func10 (by kernel_rfl) rfl
def Q0O : List Nat:=[0,1,2,3,4,5,6,8,11,19,26,27,28,29]
noncomputable def Q3O : Code:=(Tryz.f10.body).getD .skip
attribute [go_sem] Q3O Q0O Tryz.f10
attribute [go_sem] Tryz.f11
abbrev Q7V : Nat:=12
theorem X5k : Enters PP 12:=enters_of Tryz.func12 (by kernel_rfl) rfl
def Q5D : List (Nat × (List Nat × List Nat × List Nat)):=[]
def Q5O : List Nat:=[0,1,2,3,4,9,14,20,26,32]
noncomputable def Q6d : Code:=(Tryz.f12.body).getD .skip
theorem X6F : Txt PP Q7V Tryz.f12 Q6d Q5D:=⟨X5k,Tryz.func12,rfl,by kernel_rfl,by kernel_rfl⟩
attribute [go_sem] Q6d Q5O Q5D Tryz.f12
abbrev Q5j : Nat:=13
theorem X2k : Enters PP 13:=enters_of Tryz.func13 (by kernel_rfl) rfl
def Q4h : List (Nat × (List Nat × List Nat × List Nat)):=[]
def Q4p : List Nat:=[0,1,2,4]
noncomputable def Q4w : Code:=(Tryz.f13.body).getD .skip
theorem X4d : Txt PP Q5j Tryz.f13 Q4w Q4h:=⟨X2k,Tryz.func13,rfl,by kernel_rfl,by kernel_rfl⟩
attribute [go_sem] Q4w Q4p Q4h Tryz.f13
attribute [go_sem] Tryz.f14
attribute [go_sem] Tryz.f15
attribute [go_sem] Tryz.f16
attribute [go_sem] Tryz.f17
attribute [go_sem] Tryz.f18
attribute [go_sem] Tryz.f19
abbrev X4C : Nat:=20
theorem X9j : Enters PP 20:=enters_of Tryz.func20 (by kernel_rfl) rfl
def X0L : List (Nat × (List Nat × List Nat × List Nat)):=[]
def X1l : List Nat:=[0,1,4,5,10,14,26]
noncomputable def X1M : Code:=(Tryz.f20.body).getD .skip
theorem Y1O : Txt PP X4C Tryz.f20 X1M X0L:=⟨X9j,Tryz.func20,rfl,by kernel_rfl,by kernel_rfl⟩
attribute [go_sem] X1M X1l X0L Tryz.f20
abbrev Q9I : Nat:=21
theorem X6v : Enters PP 21:=enters_of Tryz.func21 (by kernel_rfl) rfl
def Q6W : List (Nat × (List Nat × List Nat × List Nat)):=[]
def Q7q : List Nat:=[0,1,4,5,9]
noncomputable def Q7K : Code:=(Tryz.f21.body).getD .skip
theorem X8y : Txt PP Q9I Tryz.f21 Q7K Q6W:=⟨X6v,Tryz.func21,rfl,by kernel_rfl,by kernel_rfl⟩
attribute [go_sem] Q7K Q7q Q6W Tryz.f21
abbrev Q9K : Nat:=22
theorem X6x : Enters PP 22:=enters_of Tryz.func22 (by kernel_rfl) rfl
def Q6Y : List (Nat × (List Nat × List Nat × List Nat)):=[]
def Q7s : List Nat:=[0,1,4,5,9,21,33,42]
noncomputable def Q7M : Code:=(Tryz.f22.body).getD .skip
theorem X8A : Txt PP Q9K Tryz.f22 Q7M Q6Y:=⟨X6x,Tryz.func22,rfl,by kernel_rfl,by kernel_rfl⟩
attribute [go_sem] Q7M Q7s Q6Y Tryz.f22
abbrev Q4F : Nat:=23
theorem X6s : Enters PP 23:=enters_of Tryz.func23 (by kernel_rfl) rfl
def Q6T : List (Nat × (List Nat × List Nat × List Nat)):=[]
def Q7n : List Nat:=[0,1,2,3,4,7,13]
noncomputable def Q7H : Code:=(Tryz.f23.body).getD .skip
theorem X8v : Txt PP Q4F Tryz.f23 Q7H Q6T:=⟨X6s,Tryz.func23,rfl,by kernel_rfl,by kernel_rfl⟩
attribute [go_sem] Q7H Q7n Q6T Tryz.f23
abbrev Q4I : Nat:=24
theorem X6A : Enters PP 24:=enters_of Tryz.func24 (by kernel_rfl) rfl
def Q7b : List (Nat × (List Nat × List Nat × List Nat)):=[(3,[0,2,3,1,4,5,6,7,8],[],[])]
def Q3s : List Nat:=[0,1,2,3,5]
noncomputable def Q7P : Code:=(Tryz.f24.body).getD .skip
theorem Q9t : Txt PP Q4I Tryz.f24 Q7P Q7b:=⟨X6A,Tryz.func24,rfl,by kernel_rfl,by kernel_rfl⟩
attribute [go_sem] Q7P Q3s Q7b Tryz.f24
abbrev X4B : Nat:=25
theorem X9i : Enters PP 25:=enters_of Tryz.func25 (by kernel_rfl) rfl
def X0K : List (Nat × (List Nat × List Nat × List Nat)):=[]
def X1k : List Nat:=[0,1,4,10]
noncomputable def X1L : Code:=(Tryz.f25.body).getD .skip
theorem Y1N : Txt PP X4B Tryz.f25 X1L X0K:=⟨X9i,Tryz.func25,rfl,by kernel_rfl,by kernel_rfl⟩
attribute [go_sem] X1L X1k X0K Tryz.f25
abbrev Q7T : Nat:=26
theorem X5h : Enters PP 26:=enters_of Tryz.func26 (by kernel_rfl) rfl
def Q5A : List (Nat × (List Nat × List Nat × List Nat)):=[]
def Q5M : List Nat:=[0,1,2]
noncomputable def Q6a : Code:=(Tryz.f26.body).getD .skip
theorem X6D : Txt PP Q7T Tryz.f26 Q6a Q5A:=⟨X5h,Tryz.func26,rfl,by kernel_rfl,by kernel_rfl⟩
attribute [go_sem] Q6a Q5M Q5A Tryz.f26
abbrev Q4E : Nat:=27
theorem X6i : Enters PP 27:=enters_of Tryz.func27 (by kernel_rfl) rfl
def Q6K : List (Nat × (List Nat × List Nat × List Nat)):=[(8,[0,1,2,3,4,5,6,7,8,9,10,11,12,13],[5],[])]
def Q7d : List Nat:=[0,1,2,3,4,5,6,7,8,24,31,48,60,61,62,63]
noncomputable def Q7x : Code:=(Tryz.f27.body).getD .skip
theorem X8m : Txt PP Q4E Tryz.f27 Q7x Q6K:=⟨X6i,Tryz.func27,rfl,by kernel_rfl,by kernel_rfl⟩
attribute [go_sem] Q7x Q7d Q6K Tryz.f27
abbrev Q6G : Nat:=28
theorem X9h : Enters PP 28:=enters_of Tryz.func28 (by kernel_rfl) rfl
def X0J : List (Nat × (List Nat × List Nat × List Nat)):=[]
def Q5r : List Nat:=[0,2,3,4,11]
noncomputable def X1K : Code:=(Tryz.f28.body).getD .skip
theorem X4c : Txt PP Q6G Tryz.f28 X1K X0J:=⟨X9h,Tryz.func28,rfl,by kernel_rfl,by kernel_rfl⟩
attribute [go_sem] X1K Q5r X0J Tryz.f28
abbrev Q7Y : Nat:=29
theorem X5n : Enters PP 29:=enters_of Tryz.func29 (by kernel_rfl) rfl
def Q5G : List (Nat × (List Nat × List Nat × List Nat)):=[]
def Q5R : List Nat:=[0,1,2]
noncomputable def Q6g : Code:=(Tryz.f29.body).getD .skip
theorem X6I : Txt PP Q7Y Tryz.f29 Q6g Q5G:=⟨X5n,Tryz.func29,rfl,by kernel_rfl,by kernel_rfl⟩
attribute [go_sem] Q6g Q5R Q5G Tryz.f29
abbrev Q1D : Nat:=30
theorem Y1f : Enters PP 30:=enters_of Tryz.func30 (by kernel_rfl) rfl
def X2Y : List (Nat × (List Nat × List Nat × List Nat)):=[]
def Q4b : List Nat:=[0,2,3,4,5,6,7,8,9,10,11,12,13,14,15,22,37,41,42,43,59,60,61,71,72,73,74,102,103,104,105]
noncomputable def X3R : Code:=(Tryz.f30.body).getD .skip
theorem Q9r : Txt PP Q1D Tryz.f30 X3R X2Y:=⟨Y1f,Tryz.func30,rfl,by kernel_rfl,by kernel_rfl⟩
attribute [go_sem] X3R Q4b X2Y Tryz.f30
abbrev Q5k : Nat:=31
theorem Y1e : Enters PP 31:=enters_of Tryz.func31 (by kernel_rfl) rfl
def X2X : List (Nat × (List Nat × List Nat × List Nat)):=[(3,[0,1,2,3,5,6,7,8,4,9,10,11],[],[])]
def Q6x : List Nat:=[0,2,4]
noncomputable def X3Q : Code:=(Tryz.f31.body).getD .skip
theorem X5V : Txt PP Q5k Tryz.f31 X3Q X2X:=⟨Y1e,Tryz.func31,rfl,by kernel_rfl,by kernel_rfl⟩
attribute [go_sem] X3Q Q6x X2X Tryz.f31
abbrev Y0h : Nat:=32
theorem Y3O : Enters PP 32:=enters_of Tryz.func32 (by kernel_rfl) rfl
def X7z : List (Nat × (List Nat × List Nat × List Nat)):=[]
def X7J : List Nat:=[0,2,17]
noncomputable def X8i : Code:=(Tryz.f32.body).getD .skip
theorem Y6f : Txt PP Y0h Tryz.f32 X8i X7z:=⟨Y3O,Tryz.func32,rfl,by kernel_rfl,by kernel_rfl⟩
attribute [go_sem] X8i X7J X7z Tryz.f32
abbrev X6b : Nat:=33
theorem Y1b : Enters PP 33:=enters_of Tryz.func33 (by kernel_rfl) rfl
def X2U : List (Nat × (List Nat × List Nat × List Nat)):=[]
def X3q : List Nat:=[0,1,2,3,4,10,16]
noncomputable def X3N : Code:=(Tryz.f33.body).getD .skip
theorem Y3a : Txt PP X6b Tryz.f33 X3N X2U:=⟨Y1b,Tryz.func33,rfl,by kernel_rfl,by kernel_rfl⟩
attribute [go_sem] X3N X3q X2U Tryz.f33
abbrev X4D : Nat:=34
theorem X9k : Enters PP 34:=enters_of Tryz.func34 (by kernel_rfl) rfl
def X0M : List (Nat × (List Nat × List Nat × List Nat)):=[]
def X1m : List Nat:=[0,1,4,5,10,14,25]
noncomputable def X1N : Code:=(Tryz.f34.body).getD .skip
theorem Y1P : Txt PP X4D Tryz.f34 X1N X0M:=⟨X9k,Tryz.func34,rfl,by kernel_rfl,by kernel_rfl⟩
attribute [go_sem] X1N X1m X0M Tryz.f34
abbrev Q9J : Nat:=35
theorem X6w : Enters PP 35:=enters_of Tryz.func35 (by kernel_rfl) rfl
def Q6X : List (Nat × (List Nat × List Nat × List Nat)):=[]
def Q7r : List Nat:=[0,1,4,5,9]
noncomputable def Q7L : Code:=(Tryz.f35.body).getD .skip
theorem X8z : Txt PP Q9J Tryz.f35 Q7L Q6X:=⟨X6w,Tryz.func35,rfl,by kernel_rfl,by kernel_rfl⟩
attribute [go_sem] Q7L Q7r Q6X Tryz.f35
attribute [go_sem] Tryz.f36
attribute [go_sem] Tryz.f37
abbrev X4l : Nat:=38
theorem X8R : Enters PP 38:=enters_of Tryz.func38 (by kernel_rfl) rfl
def X0t : List (Nat × (List Nat × List Nat × List Nat)):=[(1,[0,1,2,3,4,5,6,8,9,10,7,11,12,13],[],[])]
def X0U : List Nat:=[0,1,2]
noncomputable def X1u : Code:=(Tryz.f38.body).getD .skip
theorem Y1x : Txt PP X4l Tryz.f38 X1u X0t:=⟨X8R,Tryz.func38,rfl,by kernel_rfl,by kernel_rfl⟩
attribute [go_sem] X1u X0U X0t Tryz.f38
attribute [go_sem] Tryz.f39
abbrev X1U : Nat:=40
theorem X7U : Enters PP 40:=enters_of Tryz.func40 (by kernel_rfl) rfl
def Q8u : List (Nat × (List Nat × List Nat × List Nat)):=[]
def Q8J : List Nat:=[0,1,2]
noncomputable def Q9f : Code:=(Tryz.f40.body).getD .skip
theorem X9q : Txt PP X1U Tryz.f40 Q9f Q8u:=⟨X7U,Tryz.func40,rfl,by kernel_rfl,by kernel_rfl⟩
attribute [go_sem] Q9f Q8J Q8u Tryz.f40
attribute [go_sem] Tryz.f41
abbrev X1T : Nat:=42
theorem X7T : Enters PP 42:=enters_of Tryz.func42 (by kernel_rfl) rfl
def Q8t : List (Nat × (List Nat × List Nat × List Nat)):=[]
def Q8I : List Nat:=[0,1,4,5,6,10]
noncomputable def Q9e : Code:=(Tryz.f42.body).getD .skip
theorem X9p : Txt PP X1T Tryz.f42 Q9e Q8t:=⟨X7T,Tryz.func42,rfl,by kernel_rfl,by kernel_rfl⟩
attribute [go_sem] Q9e Q8I Q8t Tryz.f42
abbrev Q7X : Nat:=43
theorem X5m : Enters PP 43:=enters_of Tryz.func43 (by kernel_rfl) rfl
def Q5F : List (Nat × (List Nat × List Nat × List Nat)):=[]
def Q5Q : List Nat:=[0,2]
noncomputable def Q6f : Code:=(Tryz.f43.body).getD .skip
theorem X6H : Txt PP Q7X Tryz.f43 Q6f Q5F:=⟨X5m,Tryz.func43,rfl,by kernel_rfl,by kernel_rfl⟩
attribute [go_sem] Q6f Q5Q Q5F Tryz.f43
abbrev Q5n : Nat:=44
theorem X2n : Enters PP 44:=enters_of Tryz.func44 (by kernel_rfl) rfl
def Q4k : List (Nat × (List Nat × List Nat × List Nat)):=[]
def Q1T : List Nat:=[0,1,2,4,5,6,7,8,9,10,15,23,27,28,29]
noncomputable def Q4z : Code:=(Tryz.f44.body).getD .skip
theorem Q5i : Txt PP Q5n Tryz.f44 Q4z Q4k:=⟨X2n,Tryz.func44,rfl,by kernel_rfl,by kernel_rfl⟩
attribute [go_sem] Q4z Q1T Q4k Tryz.f44
attribute [go_sem] Tryz.f45
abbrev Q9L : Nat:=46
theorem X6y : Enters PP 46:=enters_of Tryz.func46 (by kernel_rfl) rfl
def Q6Z : List (Nat × (List Nat × List Nat × List Nat)):=[]
def Q7t : List Nat:=[0,1,4,5,9,17]
noncomputable def Q7N : Code:=(Tryz.f46.body).getD .skip
theorem X8B : Txt PP Q9L Tryz.f46 Q7N Q6Z:=⟨X6y,Tryz.func46,rfl,by kernel_rfl,by kernel_rfl⟩
attribute [go_sem] Q7N Q7t Q6Z Tryz.f46
abbrev Q3U : Nat:=47
theorem Q8Z : Enters PP 47:=enters_of Tryz.func47 (by kernel_rfl) rfl
def Q2X : List (Nat × (List Nat × List Nat × List Nat)):=[(3,[0,1,2,3,4,5,6,7,8,9,11,12,14,15,16,17,18,19,10,13,20,21,22,23],[23,30,3],[])]
def Q1z : List Nat:=[0,1,2,3,5,8,39,40,41,42]
noncomputable def Q3j : Code:=(Tryz.f47.body).getD .skip
theorem Q3S : Txt PP Q3U Tryz.f47 Q3j Q2X:=⟨Q8Z,Tryz.func47,rfl,by kernel_rfl,by kernel_rfl⟩
attribute [go_sem] Q3j Q1z Q2X Tryz.f47
abbrev Q3W : Nat:=48
theorem Q9c : Enters PP 48:=enters_of Tryz.func48 (by kernel_rfl) rfl
def Q2Z : List (Nat × (List Nat × List Nat × List Nat)):=[]
def Q1B : List Nat:=[0,1,2,3,4,5,6,8,18,19,20,21]
noncomputable def Q3m : Code:=(Tryz.f48.body).getD .skip
theorem Q3T : Txt PP Q3W Tryz.f48 Q3m Q2Z:=⟨Q9c,Tryz.func48,rfl,by kernel_rfl,by kernel_rfl⟩
attribute [go_sem] Q3m Q1B Q2Z Tryz.f48
abbrev X5X : Nat:=49
theorem Y0X : Enters PP 49:=enters_of Tryz.func49 (by kernel_rfl) rfl
def X2Q : List (Nat × (List Nat × List Nat × List Nat)):=[]
def X3m : List Nat:=[0,1,2,6]
noncomputable def X3J : Code:=(Tryz.f49.body).getD .skip
theorem Y2W : Txt PP X5X Tryz.f49 X3J X2Q:=⟨Y0X,Tryz.func49,rfl,by kernel_rfl,by kernel_rfl⟩
attribute [go_sem] X3J X3m X2Q Tryz.f49
abbrev X5W : Nat:=50
theorem Y0W : Enters PP 50:=enters_of Tryz.func50 (by kernel_rfl) rfl
def X2P : List (Nat × (List Nat × List Nat × List Nat)):=[]
def X3l : List Nat:=[0,2,4,5,6,7,8,13]
noncomputable def X3I : Code:=(Tryz.f50.body).getD .skip
theorem Y2V : Txt PP X5W Tryz.f50 X3I X2P:=⟨Y0W,Tryz.func50,rfl,by kernel_rfl,by kernel_rfl⟩
attribute [go_sem] X3I X3l X2P Tryz.f50
abbrev Q9z : Nat:=51
theorem X6l : Enters PP 51:=enters_of Tryz.func51 (by kernel_rfl) rfl
def Q6M : List (Nat × (List Nat × List Nat × List Nat)):=[]
def Q7g : List Nat:=[0,1,2,3,4,5,6,7,9,10,11,12,25,41,49,53,54,55,56,70,75,93,94,95,108]
noncomputable def Q7A : Code:=(Tryz.f51.body).getD .skip
theorem X8o : Txt PP Q9z Tryz.f51 Q7A Q6M:=⟨X6l,Tryz.func51,rfl,by kernel_rfl,by kernel_rfl⟩
attribute [go_sem] Q7A Q7g Q6M Tryz.f51
abbrev Q4c : Nat:=52
theorem X8O : Enters PP 52:=enters_of Tryz.func52 (by kernel_rfl) rfl
def X0q : List (Nat × (List Nat × List Nat × List Nat)):=[]
def X0R : List Nat:=[0,1,4,5,6,7,17,30,33,38]
noncomputable def X1r : Code:=(Tryz.f52.body).getD .skip
theorem Y1u : Txt PP Q4c Tryz.f52 X1r X0q:=⟨X8O,Tryz.func52,rfl,by kernel_rfl,by kernel_rfl⟩
attribute [go_sem] X1r X0R X0q Tryz.f52
abbrev Q5w : Nat:=53
theorem X7Z : Enters PP 53:=enters_of Tryz.func53 (by kernel_rfl) rfl
def Q8z : List (Nat × (List Nat × List Nat × List Nat)):=[]
def Q8N : List Nat:=[0,1,2,3,14]
noncomputable def Q9k : Code:=(Tryz.f53.body).getD .skip
theorem X9u : Txt PP Q5w Tryz.f53 Q9k Q8z:=⟨X7Z,Tryz.func53,rfl,by kernel_rfl,by kernel_rfl⟩
attribute [go_sem] Q9k Q8N Q8z Tryz.f53
abbrev Q7S : Nat:=54
theorem X5f : Enters PP 54:=enters_of Tryz.func54 (by kernel_rfl) rfl
def Q5K : List Nat:=[0,1,2,4,5,6,7,8,9,10,11,12,13,18,19,20,37,51,64,95,96,97,98,111,157,158,159,160]
noncomputable def Q5Y : Code:=(Tryz.f54.body).getD .skip
attribute [go_sem] Q5Y Q5K Tryz.f54
abbrev Q6h : Nat:=55
theorem X3B : Enters PP 55:=enters_of Tryz.func55 (by kernel_rfl) rfl
def Q4T : List (Nat × (List Nat × List Nat × List Nat)):=[]
def Q4Y : List Nat:=[0,2]
noncomputable def Q5d : Code:=(Tryz.f55.body).getD .skip
theorem X5p : Txt PP Q6h Tryz.f55 Q5d Q4T:=⟨X3B,Tryz.func55,rfl,by kernel_rfl,by kernel_rfl⟩
attribute [go_sem] Q5d Q4Y Q4T Tryz.f55
abbrev X1W : Nat:=56
theorem X7W : Enters PP 56:=enters_of Tryz.func56 (by kernel_rfl) rfl
def Q8w : List (Nat × (List Nat × List Nat × List Nat)):=[(1,[0,1,2,3,4,5,6,9,10,11,7,8,12,13,14],[10,15],[])]
def Q8L : List Nat:=[0,1,2]
noncomputable def Q9h : Code:=(Tryz.f56.body).getD .skip
theorem X9s : Txt PP X1W Tryz.f56 Q9h Q8w:=⟨X7W,Tryz.func56,rfl,by kernel_rfl,by kernel_rfl⟩
attribute [go_sem] Q9h Q8L Q8w Tryz.f56
abbrev Q6l : Nat:=57
theorem X3E : Enters PP 57:=enters_of Tryz.func57 (by kernel_rfl) rfl
def Q4W : List (Nat × (List Nat × List Nat × List Nat)):=[]
def Q5b : List Nat:=[0,2]
noncomputable def Q5g : Code:=(Tryz.f57.body).getD .skip
theorem X5t : Txt PP Q6l Tryz.f57 Q5g Q4W:=⟨X3E,Tryz.func57,rfl,by kernel_rfl,by kernel_rfl⟩
attribute [go_sem] Q5g Q5b Q4W Tryz.f57
abbrev Q2d : Nat:=58
theorem Y1i : Enters PP 58:=enters_of Tryz.func58 (by kernel_rfl) rfl
def X3u : List Nat:=[0,2,3,4,5,6,7,8,9,10,11,12,13,14,15,34,35,36,48,51,52,53,54,117,118,119,138,149,150,151,152,175,181,182,183]
noncomputable def X3U : Code:=(Tryz.f58.body).getD .skip
attribute [go_sem] X3U X3u Tryz.f58
abbrev Q0w : Nat:=59
theorem Q5W : Enters PP 59:=enters_of Tryz.func59 (by kernel_rfl) rfl
def Q1Y : List (Nat × (List Nat × List Nat × List Nat)):=[]
def Q2a : List Nat:=[0,1,4,5,6,7,8,9,13,14,15,39,44,53,54,55,79]
noncomputable def Q2c : Code:=(Tryz.f59.body).getD .skip
theorem Q6F : Txt PP Q0w Tryz.f59 Q2c Q1Y:=⟨Q5W,Tryz.func59,rfl,by kernel_rfl,by kernel_rfl⟩
attribute [go_sem] Q2c Q2a Q1Y Tryz.f59
abbrev X6c : Nat:=60
theorem Y1c : Enters PP 60:=enters_of Tryz.func60 (by kernel_rfl) rfl
def X2V : List (Nat × (List Nat × List Nat × List Nat)):=[]
def X3r : List Nat:=[0,2]
noncomputable def X3O : Code:=(Tryz.f60.body).getD .skip
theorem Y3b : Txt PP X6c Tryz.f60 X3O X2V:=⟨Y1c,Tryz.func60,rfl,by kernel_rfl,by kernel_rfl⟩
attribute [go_sem] X3O X3r X2V Tryz.f60
abbrev X4F : Nat:=61
theorem X9n : Enters PP 61:=enters_of Tryz.func61 (by kernel_rfl) rfl
def X0P : List (Nat × (List Nat × List Nat × List Nat)):=[]
def X1o : List Nat:=[0,1,2,4,5,6,8,13,24]
noncomputable def X1Q : Code:=(Tryz.f61.body).getD .skip
theorem Y1R : Txt PP X4F Tryz.f61 X1Q X0P:=⟨X9n,Tryz.func61,rfl,by kernel_rfl,by kernel_rfl⟩
attribute [go_sem] X1Q X1o X0P Tryz.f61
abbrev Q6j : Nat:=62
theorem X3C : Enters PP 62:=enters_of Tryz.func62 (by kernel_rfl) rfl
def Q4U : List (Nat × (List Nat × List Nat × List Nat)):=[(1,[0,1,2,3,4,6,7,8,9,10,13,14,15,16,17,18,19,20,5,11,12,21,22,23],[],[])]
def Q4Z : List Nat:=[0,1,4]
noncomputable def Q5e : Code:=(Tryz.f62.body).getD .skip
theorem X5r : Txt PP Q6j Tryz.f62 Q5e Q4U:=⟨X3C,Tryz.func62,rfl,by kernel_rfl,by kernel_rfl⟩
attribute [go_sem] Q5e Q4Z Q4U Tryz.f62
abbrev Q5l : Nat:=63
theorem X2l : Enters PP 63:=enters_of Tryz.func63 (by kernel_rfl) rfl
def Q4i : List (Nat × (List Nat × List Nat × List Nat)):=[(1,[0,1,2,3,4,5,6,7,9,10,11,12,13,14,15,16,8,17,18,19],[],[])]
def Q4q : List Nat:=[0,1,4]
noncomputable def Q4x : Code:=(Tryz.f63.body).getD .skip
theorem X4f : Txt PP Q5l Tryz.f63 Q4x Q4i:=⟨X2l,Tryz.func63,rfl,by kernel_rfl,by kernel_rfl⟩
attribute [go_sem] Q4x Q4q Q4i Tryz.f63
abbrev Q4L : Nat:=64
theorem X0m : Enters PP 64:=enters_of Tryz.func64 (by kernel_rfl) rfl
def Q3D : List (Nat × (List Nat × List Nat × List Nat)):=[]
def Q3K : List Nat:=[0,1,2,6]
noncomputable def Q3R : Code:=(Tryz.f64.body).getD .skip
theorem X2z : Txt PP Q4L Tryz.f64 Q3R Q3D:=⟨X0m,Tryz.func64,rfl,by kernel_rfl,by kernel_rfl⟩
attribute [go_sem] Q3R Q3K Q3D Tryz.f64
abbrev Q1t : Nat:=65
theorem Q6B : Enters PP 65:=enters_of Tryz.func65 (by kernel_rfl) rfl
def Q2i : List (Nat × (List Nat × List Nat × List Nat)):=[]
def Q0s : List Nat:=[0,2,4]
noncomputable def Q2v : Code:=(Tryz.f65.body).getD .skip
theorem Q0x : Txt PP Q1t Tryz.f65 Q2v Q2i:=⟨Q6B,Tryz.func65,rfl,by kernel_rfl,by kernel_rfl⟩
attribute [go_sem] Q2v Q0s Q2i Tryz.f65
abbrev Q9M : Nat:=66
theorem X6z : Enters PP 66:=enters_of Tryz.func66 (by kernel_rfl) rfl
def Q7a : List (Nat × (List Nat × List Nat × List Nat)):=[]
def Q7u : List Nat:=[0,1,2,3,4,9,15]
noncomputable def Q7O : Code:=(Tryz.f66.body).getD .skip
theorem X8C : Txt PP Q9M Tryz.f66 Q7O Q7a:=⟨X6z,Tryz.func66,rfl,by kernel_rfl,by kernel_rfl⟩
attribute [go_sem] Q7O Q7u Q7a Tryz.f66
attribute [go_sem] Tryz.f67
attribute [go_sem] Tryz.f68
abbrev Q5v : Nat:=69
theorem X7X : Enters PP 69:=enters_of Tryz.func69 (by kernel_rfl) rfl
def Q8x : List (Nat × (List Nat × List Nat × List Nat)):=[]
def Q8M : List Nat:=[0,1,4,5]
noncomputable def Q9i : Code:=(Tryz.f69.body).getD .skip
theorem X9t : Txt PP Q5v Tryz.f69 Q9i Q8x:=⟨X7X,Tryz.func69,rfl,by kernel_rfl,by kernel_rfl⟩
attribute [go_sem] Q9i Q8M Q8x Tryz.f69
attribute [go_sem] Tryz.f70
abbrev X8J : Nat:=71
theorem Y2L : Enters PP 71:=enters_of Tryz.func71 (by kernel_rfl) rfl
def X5D : List (Nat × (List Nat × List Nat × List Nat)):=[]
def X5I : List Nat:=[0,1,2,5]
noncomputable def X5S : Code:=(Tryz.f71.body).getD .skip
theorem Y4b : Txt PP X8J Tryz.f71 X5S X5D:=⟨Y2L,Tryz.func71,rfl,by kernel_rfl,by kernel_rfl⟩
attribute [go_sem] X5S X5I X5D Tryz.f71
abbrev X1S : Nat:=72
theorem X7S : Enters PP 72:=enters_of Tryz.func72 (by kernel_rfl) rfl
def Q8s : List (Nat × (List Nat × List Nat × List Nat)):=[]
def Q8H : List Nat:=[0,1,2,3,4,5,7,8,9,14,23,24,25,26,38,43]
noncomputable def Q9d : Code:=(Tryz.f72.body).getD .skip
theorem X9o : Txt PP X1S Tryz.f72 Q9d Q8s:=⟨X7S,Tryz.func72,rfl,by kernel_rfl,by kernel_rfl⟩
attribute [go_sem] Q9d Q8H Q8s Tryz.f72
abbrev X4z : Nat:=73
theorem X9f : Enters PP 73:=enters_of Tryz.func73 (by kernel_rfl) rfl
def X0H : List (Nat × (List Nat × List Nat × List Nat)):=[]
def X1i : List Nat:=[0,1,2,3,4,12]
noncomputable def X1I : Code:=(Tryz.f73.body).getD .skip
theorem Y1L : Txt PP X4z Tryz.f73 X1I X0H:=⟨X9f,Tryz.func73,rfl,by kernel_rfl,by kernel_rfl⟩
attribute [go_sem] X1I X1i X0H Tryz.f73
abbrev X6e : Nat:=74
theorem Y1h : Enters PP 74:=enters_of Tryz.func74 (by kernel_rfl) rfl
def X3a : List (Nat × (List Nat × List Nat × List Nat)):=[]
def X3t : List Nat:=[0,2,3,4,5,6,10,11,12,13,26]
noncomputable def X3T : Code:=(Tryz.f74.body).getD .skip
theorem Y3d : Txt PP X6e Tryz.f74 X3T X3a:=⟨Y1h,Tryz.func74,rfl,by kernel_rfl,by kernel_rfl⟩
attribute [go_sem] X3T X3t X3a Tryz.f74
abbrev Q6i : Nat:=75
theorem Y3N : Enters PP 75:=enters_of Tryz.func75 (by kernel_rfl) rfl
def X7y : List (Nat × (List Nat × List Nat × List Nat)):=[]
def Q6w : List Nat:=[0,1,4,10]
noncomputable def X8h : Code:=(Tryz.f75.body).getD .skip
theorem X5q : Txt PP Q6i Tryz.f75 X8h X7y:=⟨Y3N,Tryz.func75,rfl,by kernel_rfl,by kernel_rfl⟩
attribute [go_sem] X8h Q6w X7y Tryz.f75
abbrev X4E : Nat:=76
theorem X9l : Enters PP 76:=enters_of Tryz.func76 (by kernel_rfl) rfl
def X0N : List (Nat × (List Nat × List Nat × List Nat)):=[]
def X1n : List Nat:=[0,2,3,4,5,6,10,11,12,13,18]
noncomputable def X1O : Code:=(Tryz.f76.body).getD .skip
theorem Y1Q : Txt PP X4E Tryz.f76 X1O X0N:=⟨X9l,Tryz.func76,rfl,by kernel_rfl,by kernel_rfl⟩
attribute [go_sem] X1O X1n X0N Tryz.f76
abbrev Q6k : Nat:=77
theorem X3D : Enters PP 77:=enters_of Tryz.func77 (by kernel_rfl) rfl
def Q4V : List (Nat × (List Nat × List Nat × List Nat)):=[(1,[0,1,2,3,4,5,6,7,8,9,10,11,12,13,14,15,16,17,18,19,20,21,22,23,24,25],[34,7],[])]
def Q5a : List Nat:=[0,1,2,6,7,8,9,10,11,50,51,52,58,59,60,61]
noncomputable def Q5f : Code:=(Tryz.f77.body).getD .skip
theorem X5s : Txt PP Q6k Tryz.f77 Q5f Q4V:=⟨X3D,Tryz.func77,rfl,by kernel_rfl,by kernel_rfl⟩
attribute [go_sem] Q5f Q5a Q4V Tryz.f77
abbrev Q1w : Nat:=78
theorem X2o : Enters PP 78:=enters_of Tryz.func78 (by kernel_rfl) rfl
def Q4l : List (Nat × (List Nat × List Nat × List Nat)):=[]
def Q1m : List Nat:=[0,1,4]
noncomputable def Q4A : Code:=(Tryz.f78.body).getD .skip
theorem Q2z : Txt PP Q1w Tryz.f78 Q4A Q4l:=⟨X2o,Tryz.func78,rfl,by kernel_rfl,by kernel_rfl⟩
attribute [go_sem] Q4A Q1m Q4l Tryz.f78
abbrev X4j : Nat:=79
theorem X8P : Enters PP 79:=enters_of Tryz.func79 (by kernel_rfl) rfl
def X0r : List (Nat × (List Nat × List Nat × List Nat)):=[]
def X0S : List Nat:=[0,1,2,4]
noncomputable def X1s : Code:=(Tryz.f79.body).getD .skip
theorem Y1v : Txt PP X4j Tryz.f79 X1s X0r:=⟨X8P,Tryz.func79,rfl,by kernel_rfl,by kernel_rfl⟩
attribute [go_sem] X1s X0S X0r Tryz.f79
abbrev X4p : Nat:=80
theorem X8V : Enters PP 80:=enters_of Tryz.func80 (by kernel_rfl) rfl
def X0x : List (Nat × (List Nat × List Nat × List Nat)):=[(4,[0,1,2,3,4,5,6,7,8,9,10,11],[6],[]),(5,[0,1,2,3,4,5,6,7,8,9,10,11],[7],[])]
def X0Y : List Nat:=[0,1,2,3,4,5,6,7,8,16]
noncomputable def X1y : Code:=(Tryz.f80.body).getD .skip
theorem Y1B : Txt PP X4p Tryz.f80 X1y X0x:=⟨X8V,Tryz.func80,rfl,by kernel_rfl,by kernel_rfl⟩
attribute [go_sem] X1y X0Y X0x Tryz.f80
abbrev Q9B : Nat:=81
theorem X6n : Enters PP 81:=enters_of Tryz.func81 (by kernel_rfl) rfl
def Q6O : List (Nat × (List Nat × List Nat × List Nat)):=[]
def Q7i : List Nat:=[0,1,4,6,10,11,12,13,18]
noncomputable def Q7C : Code:=(Tryz.f81.body).getD .skip
theorem X8q : Txt PP Q9B Tryz.f81 Q7C Q6O:=⟨X6n,Tryz.func81,rfl,by kernel_rfl,by kernel_rfl⟩
attribute [go_sem] Q7C Q7i Q6O Tryz.f81
abbrev X1V : Nat:=82
theorem X7V : Enters PP 82:=enters_of Tryz.func82 (by kernel_rfl) rfl
def Q8v : List (Nat × (List Nat × List Nat × List Nat)):=[]
def Q8K : List Nat:=[0,1,2,6,7,8,9,10,31,36,40,41,42,43,49]
noncomputable def Q9g : Code:=(Tryz.f82.body).getD .skip
theorem X9r : Txt PP X1V Tryz.f82 Q9g Q8v:=⟨X7V,Tryz.func82,rfl,by kernel_rfl,by kernel_rfl⟩
attribute [go_sem] Q9g Q8K Q8v Tryz.f82
abbrev Q9y : Nat:=83
theorem X6k : Enters PP 83:=enters_of Tryz.func83 (by kernel_rfl) rfl
def Q6L : List (Nat × (List Nat × List Nat × List Nat)):=[(7,[0,1,2,3,4,5,6,7,8,9,10,11,12],[9],[])]
def Q7f : List Nat:=[0,1,4,5,6,7,8,9,14,15,16,17,26,68]
noncomputable def Q7z : Code:=(Tryz.f83.body).getD .skip
theorem X8n : Txt PP Q9y Tryz.f83 Q7z Q6L:=⟨X6k,Tryz.func83,rfl,by kernel_rfl,by kernel_rfl⟩
attribute [go_sem] Q7z Q7f Q6L Tryz.f83
abbrev Q9x : Nat:=84
theorem X6j : Enters PP 84:=enters_of Tryz.func84 (by kernel_rfl) rfl
def Q7e : List Nat:=[0,1,2,6,7,8,26,27,28,56,57,58,62]
noncomputable def Q7y : Code:=(Tryz.f84.body).getD .skip
attribute [go_sem] Q7y Q7e Tryz.f84
abbrev X5Y : Nat:=85
theorem Y0Y : Enters PP 85:=enters_of Tryz.func85 (by kernel_rfl) rfl
def X2R : List (Nat × (List Nat × List Nat × List Nat)):=[]
def X3n : List Nat:=[0,1,2,31]
noncomputable def X3K : Code:=(Tryz.f85.body).getD .skip
theorem Y2X : Txt PP X5Y Tryz.f85 X3K X2R:=⟨Y0Y,Tryz.func85,rfl,by kernel_rfl,by kernel_rfl⟩
attribute [go_sem] X3K X3n X2R Tryz.f85
abbrev Q9A : Nat:=86
theorem X6m : Enters PP 86:=enters_of Tryz.func86 (by kernel_rfl) rfl
def Q6N : List (Nat × (List Nat × List Nat × List Nat)):=[]
def Q7h : List Nat:=[0,1,2,6,7,8,15,19,20,21,28]
noncomputable def Q7B : Code:=(Tryz.f86.body).getD .skip
theorem X8p : Txt PP Q9A Tryz.f86 Q7B Q6N:=⟨X6m,Tryz.func86,rfl,by kernel_rfl,by kernel_rfl⟩
attribute [go_sem] Q7B Q7h Q6N Tryz.f86
abbrev Q9H : Nat:=87
theorem X6u : Enters PP 87:=enters_of Tryz.func87 (by kernel_rfl) rfl
def Q6V : List (Nat × (List Nat × List Nat × List Nat)):=[]
def Q7p : List Nat:=[0,2,4,8]
noncomputable def Q7J : Code:=(Tryz.f87.body).getD .skip
theorem X8x : Txt PP Q9H Tryz.f87 Q7J Q6V:=⟨X6u,Tryz.func87,rfl,by kernel_rfl,by kernel_rfl⟩
attribute [go_sem] Q7J Q7p Q6V Tryz.f87
abbrev Q0N : Nat:=88
theorem Q3i : Enters PP 88:=enters_of Tryz.func88 (by kernel_rfl) rfl
def Q1g : List (Nat × (List Nat × List Nat × List Nat)):=[]
def Q1h : List Nat:=[0,1,4]
noncomputable def Q1i : Code:=(Tryz.f88.body).getD .skip
theorem Q3u : Txt PP Q0N Tryz.f88 Q1i Q1g:=⟨Q3i,Tryz.func88,rfl,by kernel_rfl,by kernel_rfl⟩
attribute [go_sem] Q1i Q1h Q1g Tryz.f88
abbrev Q1W : Nat:=89
theorem X0i : Enters PP 89:=enters_of Tryz.func89 (by kernel_rfl) rfl
def Q3A : List (Nat × (List Nat × List Nat × List Nat)):=[]
def Q3H : List Nat:=[0,2]
noncomputable def Q3N : Code:=(Tryz.f89.body).getD .skip
theorem X2w : Txt PP Q1W Tryz.f89 Q3N Q3A:=⟨X0i,Tryz.func89,rfl,by kernel_rfl,by kernel_rfl⟩
attribute [go_sem] Q3N Q3H Q3A Tryz.f89
abbrev X1Y : Nat:=90
theorem X8b : Enters PP 90:=enters_of Tryz.func90 (by kernel_rfl) rfl
def Q8B : List (Nat × (List Nat × List Nat × List Nat)):=[]
def Q8Q : List Nat:=[0,2,4]
noncomputable def Q9m : Code:=(Tryz.f90.body).getD .skip
theorem X9w : Txt PP X1Y Tryz.f90 Q9m Q8B:=⟨X8b,Tryz.func90,rfl,by kernel_rfl,by kernel_rfl⟩
attribute [go_sem] Q9m Q8Q Q8B Tryz.f90
abbrev Q5o : Nat:=91
theorem X2p : Enters PP 91:=enters_of Tryz.func91 (by kernel_rfl) rfl
def Q4m : List (Nat × (List Nat × List Nat × List Nat)):=[]
def Q4t : List Nat:=[0,1,2,3,8]
noncomputable def Q4B : Code:=(Tryz.f91.body).getD .skip
theorem X4h : Txt PP Q5o Tryz.f91 Q4B Q4m:=⟨X2p,Tryz.func91,rfl,by kernel_rfl,by kernel_rfl⟩
attribute [go_sem] Q4B Q4t Q4m Tryz.f91
abbrev Q1K : Nat:=92
theorem Q9b : Enters PP 92:=enters_of Tryz.func92 (by kernel_rfl) rfl
def Q3f : List Nat:=[0,1,4,5,12,21,40,45]
noncomputable def Q3l : Code:=(Tryz.f92.body).getD .skip
attribute [go_sem] Q3l Q3f Tryz.f92
abbrev Q1P : Nat:=93
theorem Q4M : Enters PP 93:=enters_of Tryz.func93 (by kernel_rfl) rfl
def Q1G : List (Nat × (List Nat × List Nat × List Nat)):=[]
def Q1H : List Nat:=[0,1,4]
noncomputable def Q1I : Code:=(Tryz.f93.body).getD .skip
theorem Q5u : Txt PP Q1P Tryz.f93 Q1I Q1G:=⟨Q4M,Tryz.func93,rfl,by kernel_rfl,by kernel_rfl⟩
attribute [go_sem] Q1I Q1H Q1G Tryz.f93
abbrev Q4G : Nat:=94
theorem X0g : Enters PP 94:=enters_of Tryz.func94 (by kernel_rfl) rfl
def Q3y : List (Nat × (List Nat × List Nat × List Nat)):=[(1,[0,1,2,3,4,5,6,7,8,9,10,11],[7],[])]
def Q3F : List Nat:=[0,1,2,6,7,8,9,23,24,25,26,48]
noncomputable def Q3L : Code:=(Tryz.f94.body).getD .skip
theorem X2u : Txt PP Q4G Tryz.f94 Q3L Q3y:=⟨X0g,Tryz.func94,rfl,by kernel_rfl,by kernel_rfl⟩
attribute [go_sem] Q3L Q3F Q3y Tryz.f94
abbrev Q2M : Nat:=95
theorem Q6D : Enters PP 95:=enters_of Tryz.func95 (by kernel_rfl) rfl
def Q2k : List (Nat × (List Nat × List Nat × List Nat)):=[(8,[0,1,2,3,4,5,6,7,8,9,10,11,12,13,14,15,16,18,19,20,21,22,23,24,25,26,27,28,29,30,31,32,33,34,17,35,36,37],[],[])]
def Q2r : List Nat:=[0,1,4,5,6,7,8,12,13,14,15,24,26,87]
noncomputable def Q2x : Code:=(Tryz.f95.body).getD .skip
theorem Q8f : Txt PP Q2M Tryz.f95 Q2x Q2k:=⟨Q6D,Tryz.func95,rfl,by kernel_rfl,by kernel_rfl⟩
attribute [go_sem] Q2x Q2r Q2k Tryz.f95
abbrev Q3V : Nat:=96
theorem Q9a : Enters PP 96:=enters_of Tryz.func96 (by kernel_rfl) rfl
def Q2Y : List (Nat × (List Nat × List Nat × List Nat)):=[(10,[0,1,2,3,4,5,6,7],[12],[])]
def Q3e : List Nat:=[0,1,2,6,7,8,9,10,11,12,14,15,30,31,32,33,39,45,46,47,65,98,107,108,109,110,114,115,116]
noncomputable def Q3k : Code:=(Tryz.f96.body).getD .skip
theorem X0n : Txt PP Q3V Tryz.f96 Q3k Q2Y:=⟨Q9a,Tryz.func96,rfl,by kernel_rfl,by kernel_rfl⟩
attribute [go_sem] Q3k Q3e Q2Y Tryz.f96
abbrev Q5x : Nat:=97
theorem X8c : Enters PP 97:=enters_of Tryz.func97 (by kernel_rfl) rfl
def Q8C : List (Nat × (List Nat × List Nat × List Nat)):=[]
def Q4s : List Nat:=[0,1,4,6,9]
noncomputable def Q9n : Code:=(Tryz.f97.body).getD .skip
theorem X1R : Txt PP Q5x Tryz.f97 Q9n Q8C:=⟨X8c,Tryz.func97,rfl,by kernel_rfl,by kernel_rfl⟩
attribute [go_sem] Q9n Q4s Q8C Tryz.f97
abbrev X1Z : Nat:=98
theorem X8d : Enters PP 98:=enters_of Tryz.func98 (by kernel_rfl) rfl
def Q8D : List (Nat × (List Nat × List Nat × List Nat)):=[]
def Q8R : List Nat:=[0,1,4,5,10,15,20,23,33]
noncomputable def Q9o : Code:=(Tryz.f98.body).getD .skip
theorem X9x : Txt PP X1Z Tryz.f98 Q9o Q8D:=⟨X8d,Tryz.func98,rfl,by kernel_rfl,by kernel_rfl⟩
attribute [go_sem] Q9o Q8R Q8D Tryz.f98
abbrev X8I : Nat:=99
theorem Y2K : Enters PP 99:=enters_of Tryz.func99 (by kernel_rfl) rfl
def X5C : List (Nat × (List Nat × List Nat × List Nat)):=[(25,[0,2,3,4,1,5,6,7,8,9,10],[],[])]
def X5H : List Nat:=[0,1,4,5,6,7,8,9,10,11,12,13,14,15,16,17,22,27,61,78,131,142,148]
noncomputable def X5R : Code:=(Tryz.f99.body).getD .skip
theorem Y4a : Txt PP X8I Tryz.f99 X5R X5C:=⟨Y2K,Tryz.func99,rfl,by kernel_rfl,by kernel_rfl⟩
attribute [go_sem] X5R X5H X5C Tryz.f99
abbrev Q6H : Nat:=100
theorem X9m : Enters PP 100:=enters_of Tryz.func100 (by kernel_rfl) rfl
def X0O : List (Nat × (List Nat × List Nat × List Nat)):=[]
def Q5s : List Nat:=[0,1,4]
noncomputable def X1P : Code:=(Tryz.f100.body).getD .skip
theorem X4e : Txt PP Q6H Tryz.f100 X1P X0O:=⟨X9m,Tryz.func100,rfl,by kernel_rfl,by kernel_rfl⟩
attribute [go_sem] X1P Q5s X0O Tryz.f100
abbrev Q4H : Nat:=101
theorem X0h : Enters PP 101:=enters_of Tryz.func101 (by kernel_rfl) rfl
def Q3z : List (Nat × (List Nat × List Nat × List Nat)):=[]
def Q3G : List Nat:=[0,1,4]
noncomputable def Q3M : Code:=(Tryz.f101.body).getD .skip
theorem X2v : Txt PP Q4H Tryz.f101 Q3M Q3z:=⟨X0h,Tryz.func101,rfl,by kernel_rfl,by kernel_rfl⟩
attribute [go_sem] Q3M Q3G Q3z Tryz.f101
abbrev Q5p : Nat:=102
theorem X2q : Enters PP 102:=enters_of Tryz.func102 (by kernel_rfl) rfl
def Q4n : List (Nat × (List Nat × List Nat × List Nat)):=[]
def Q4u : List Nat:=[0,1,2,3,4,5,19,33]
noncomputable def Q4C : Code:=(Tryz.f102.body).getD .skip
theorem X4i : Txt PP Q5p Tryz.f102 Q4C Q4n:=⟨X2q,Tryz.func102,rfl,by kernel_rfl,by kernel_rfl⟩
attribute [go_sem] Q4C Q4u Q4n Tryz.f102
abbrev Q9N : Nat:=103
theorem Y1d : Enters PP 103:=enters_of Tryz.func103 (by kernel_rfl) rfl
def X2W : List (Nat × (List Nat × List Nat × List Nat)):=[]
def Q6v : List Nat:=[0,1,4,5,6,7,8,9,10,11,19,26,27,28,29,33,34,35,36]
noncomputable def X3P : Code:=(Tryz.f103.body).getD .skip
theorem X5U : Txt PP Q9N Tryz.f103 X3P X2W:=⟨Y1d,Tryz.func103,rfl,by kernel_rfl,by kernel_rfl⟩
attribute [go_sem] X3P Q6v X2W Tryz.f103
abbrev Q4J : Nat:=104
theorem X0k : Enters PP 104:=enters_of Tryz.func104 (by kernel_rfl) rfl
def Q3B : List (Nat × (List Nat × List Nat × List Nat)):=[]
def Q3I : List Nat:=[0,1,2,3,4]
noncomputable def Q3P : Code:=(Tryz.f104.body).getD .skip
theorem X2x : Txt PP Q4J Tryz.f104 Q3P Q3B:=⟨X0k,Tryz.func104,rfl,by kernel_rfl,by kernel_rfl⟩
attribute [go_sem] Q3P Q3I Q3B Tryz.f104
abbrev X4x : Nat:=105
theorem X9d : Enters PP 105:=enters_of Tryz.func105 (by kernel_rfl) rfl
def X0F : List (Nat × (List Nat × List Nat × List Nat)):=[]
def X1g : List Nat:=[0,2,3,8]
noncomputable def X1G : Code:=(Tryz.f105.body).getD .skip
theorem Y1J : Txt PP X4x Tryz.f105 X1G X0F:=⟨X9d,Tryz.func105,rfl,by kernel_rfl,by kernel_rfl⟩
attribute [go_sem] X1G X1g X0F Tryz.f105
abbrev Q1u : Nat:=106
theorem Q6E : Enters PP 106:=enters_of Tryz.func106 (by kernel_rfl) rfl
def Q2l : List (Nat × (List Nat × List Nat × List Nat)):=[]
def Q1n : List Nat:=[0,1,2]
noncomputable def Q2y : Code:=(Tryz.f106.body).getD .skip
theorem Q2K : Txt PP Q1u Tryz.f106 Q2y Q2l:=⟨Q6E,Tryz.func106,rfl,by kernel_rfl,by kernel_rfl⟩
attribute [go_sem] Q2y Q1n Q2l Tryz.f106
abbrev X6f : Nat:=107
theorem Y1j : Enters PP 107:=enters_of Tryz.func107 (by kernel_rfl) rfl
def X3b : List (Nat × (List Nat × List Nat × List Nat)):=[]
def X3v : List Nat:=[0,1,2,31]
noncomputable def X3V : Code:=(Tryz.f107.body).getD .skip
theorem Y3e : Txt PP X6f Tryz.f107 X3V X3b:=⟨Y1j,Tryz.func107,rfl,by kernel_rfl,by kernel_rfl⟩
attribute [go_sem] X3V X3v X3b Tryz.f107
abbrev Q3v : Nat:=108
theorem X5g : Enters PP 108:=enters_of Tryz.func108 (by kernel_rfl) rfl
def Q5z : List (Nat × (List Nat × List Nat × List Nat)):=[]
def Q5L : List Nat:=[0,1,2,4,5,6,11]
noncomputable def Q5Z : Code:=(Tryz.f108.body).getD .skip
theorem X6C : Txt PP Q3v Tryz.f108 Q5Z Q5z:=⟨X5g,Tryz.func108,rfl,by kernel_rfl,by kernel_rfl⟩
attribute [go_sem] Q5Z Q5L Q5z Tryz.f108
abbrev Q5m : Nat:=109
theorem X2m : Enters PP 109:=enters_of Tryz.func109 (by kernel_rfl) rfl
def Q4j : List (Nat × (List Nat × List Nat × List Nat)):=[(1,[0,1,2,3,4,6,7,8,9,10,13,14,15,16,17,18,19,20,5,11,12,21,22,23],[],[])]
def Q4r : List Nat:=[0,1,4]
noncomputable def Q4y : Code:=(Tryz.f109.body).getD .skip
theorem X4g : Txt PP Q5m Tryz.f109 Q4y Q4j:=⟨X2m,Tryz.func109,rfl,by kernel_rfl,by kernel_rfl⟩
attribute [go_sem] Q4y Q4r Q4j Tryz.f109
abbrev Q3n : Nat:=110
theorem Q8a : Enters PP 110:=enters_of Tryz.func110 (by kernel_rfl) rfl
def Q2A : List (Nat × (List Nat × List Nat × List Nat)):=[]
def Q2E : List Nat:=[0,1,4,5,6,13,14,15]
noncomputable def Q2H : Code:=(Tryz.f110.body).getD .skip
theorem Q9s : Txt PP Q3n Tryz.f110 Q2H Q2A:=⟨Q8a,Tryz.func110,rfl,by kernel_rfl,by kernel_rfl⟩
attribute [go_sem] Q2H Q2E Q2A Tryz.f110
abbrev X4k : Nat:=111
theorem X8Q : Enters PP 111:=enters_of Tryz.func111 (by kernel_rfl) rfl
def X0s : List (Nat × (List Nat × List Nat × List Nat)):=[]
def X0T : List Nat:=[0,2]
noncomputable def X1t : Code:=(Tryz.f111.body).getD .skip
theorem Y1w : Txt PP X4k Tryz.f111 X1t X0s:=⟨X8Q,Tryz.func111,rfl,by kernel_rfl,by kernel_rfl⟩
attribute [go_sem] X1t X0T X0s Tryz.f111
abbrev X4r : Nat:=112
theorem X8X : Enters PP 112:=enters_of Tryz.func112 (by kernel_rfl) rfl
def X0z : List (Nat × (List Nat × List Nat × List Nat)):=[]
def X1a : List Nat:=[0,1,2,3,4,9,23]
noncomputable def X1A : Code:=(Tryz.f112.body).getD .skip
theorem Y1D : Txt PP X4r Tryz.f112 X1A X0z:=⟨X8X,Tryz.func112,rfl,by kernel_rfl,by kernel_rfl⟩
attribute [go_sem] X1A X1a X0z Tryz.f112
abbrev X4n : Nat:=113
theorem X8T : Enters PP 113:=enters_of Tryz.func113 (by kernel_rfl) rfl
def X0v : List (Nat × (List Nat × List Nat × List Nat)):=[]
def X0W : List Nat:=[0,1,2,6,7,8,9,16,20,26,46]
noncomputable def X1w : Code:=(Tryz.f113.body).getD .skip
theorem Y1z : Txt PP X4n Tryz.f113 X1w X0v:=⟨X8T,Tryz.func113,rfl,by kernel_rfl,by kernel_rfl⟩
attribute [go_sem] X1w X0W X0v Tryz.f113
abbrev X4t : Nat:=114
theorem X8Z : Enters PP 114:=enters_of Tryz.func114 (by kernel_rfl) rfl
def X0B : List (Nat × (List Nat × List Nat × List Nat)):=[]
def X1c : List Nat:=[0,1,4,5,6,7,8,9,10,11,19,26,27,28,29,33,34,35,36]
noncomputable def X1C : Code:=(Tryz.f114.body).getD .skip
theorem Y1F : Txt PP X4t Tryz.f114 X1C X0B:=⟨X8Z,Tryz.func114,rfl,by kernel_rfl,by kernel_rfl⟩
attribute [go_sem] X1C X1c X0B Tryz.f114
abbrev X4A : Nat:=115
theorem X9g : Enters PP 115:=enters_of Tryz.func115 (by kernel_rfl) rfl
def X0I : List (Nat × (List Nat × List Nat × List Nat)):=[(3,[0,1,2,3,4,5,6,7,8,9,10,11,13,14,15,16,17,12,18,19,20],[],[])]
def X1j : List Nat:=[0,1,2,3,4,12]
noncomputable def X1J : Code:=(Tryz.f115.body).getD .skip
theorem Y1M : Txt PP X4A Tryz.f115 X1J X0I:=⟨X9g,Tryz.func115,rfl,by kernel_rfl,by kernel_rfl⟩
attribute [go_sem] X1J X1j X0I Tryz.f115
abbrev X4o : Nat:=116
theorem X8U : Enters PP 116:=enters_of Tryz.func116 (by kernel_rfl) rfl
def X0w : List (Nat × (List Nat × List Nat × List Nat)):=[(1,[0,1,2,3,4,5,6,7,10,11,12,13,14,15,16,17,8,9,18,19,20,21],[],[])]
def X0X : List Nat:=[0,1,2,3,4]
noncomputable def X1x : Code:=(Tryz.f116.body).getD .skip
theorem Y1A : Txt PP X4o Tryz.f116 X1x X0w:=⟨X8U,Tryz.func116,rfl,by kernel_rfl,by kernel_rfl⟩
attribute [go_sem] X1x X0X X0w Tryz.f116
abbrev Q9G : Nat:=117
theorem X6t : Enters PP 117:=enters_of Tryz.func117 (by kernel_rfl) rfl
def Q6U : List (Nat × (List Nat × List Nat × List Nat)):=[]
def Q7o : List Nat:=[0,1,2]
noncomputable def Q7I : Code:=(Tryz.f117.body).getD .skip
theorem X8w : Txt PP Q9G Tryz.f117 Q7I Q6U:=⟨X6t,Tryz.func117,rfl,by kernel_rfl,by kernel_rfl⟩
attribute [go_sem] Q7I Q7o Q6U Tryz.f117
abbrev X5Z : Nat:=118
theorem Y0Z : Enters PP 118:=enters_of Tryz.func118 (by kernel_rfl) rfl
def X2S : List (Nat × (List Nat × List Nat × List Nat)):=[]
def X3o : List Nat:=[0,2,4,5,6,7,8,13]
noncomputable def X3L : Code:=(Tryz.f118.body).getD .skip
theorem Y2Y : Txt PP X5Z Tryz.f118 X3L X2S:=⟨Y0Z,Tryz.func118,rfl,by kernel_rfl,by kernel_rfl⟩
attribute [go_sem] X3L X3o X2S Tryz.f118
abbrev X4u : Nat:=119
theorem X9a : Enters PP 119:=enters_of Tryz.func119 (by kernel_rfl) rfl
def X0C : List (Nat × (List Nat × List Nat × List Nat)):=[]
def X1d : List Nat:=[0,1,4,5,6,7,9,12,21,29]
noncomputable def X1D : Code:=(Tryz.f119.body).getD .skip
theorem Y1G : Txt PP X4u Tryz.f119 X1D X0C:=⟨X9a,Tryz.func119,rfl,by kernel_rfl,by kernel_rfl⟩
attribute [go_sem] X1D X1d X0C Tryz.f119
abbrev X4m : Nat:=120
theorem X8S : Enters PP 120:=enters_of Tryz.func120 (by kernel_rfl) rfl
def X0u : List (Nat × (List Nat × List Nat × List Nat)):=[(1,[0,1,2,3,4,5,6,7,8,9,10,11,12,14,15,16,17,13,18,19,20],[],[])]
def X0V : List Nat:=[0,1,2,3,4]
noncomputable def X1v : Code:=(Tryz.f120.body).getD .skip
theorem Y1y : Txt PP X4m Tryz.f120 X1v X0u:=⟨X8S,Tryz.func120,rfl,by kernel_rfl,by kernel_rfl⟩
attribute [go_sem] X1v X0V X0u Tryz.f120
abbrev X6a : Nat:=121
theorem Y1a : Enters PP 121:=enters_of Tryz.func121 (by kernel_rfl) rfl
def X2T : List (Nat × (List Nat × List Nat × List Nat)):=[]
def X3p : List Nat:=[0,2,3,6]
noncomputable def X3M : Code:=(Tryz.f121.body).getD .skip
theorem Y2Z : Txt PP X6a Tryz.f121 X3M X2T:=⟨Y1a,Tryz.func121,rfl,by kernel_rfl,by kernel_rfl⟩
attribute [go_sem] X3M X3p X2T Tryz.f121
abbrev Q1J : Nat:=122
theorem Q4v : Enters PP 122:=enters_of Tryz.func122 (by kernel_rfl) rfl
def Q1y : List (Nat × (List Nat × List Nat × List Nat)):=[]
def Q1A : List Nat:=[0,1,4,5,7,8,9,16]
noncomputable def Q1C : Code:=(Tryz.f122.body).getD .skip
theorem Q4N : Txt PP Q1J Tryz.f122 Q1C Q1y:=⟨Q4v,Tryz.func122,rfl,by kernel_rfl,by kernel_rfl⟩
attribute [go_sem] Q1C Q1A Q1y Tryz.f122
abbrev X1X : Nat:=123
theorem X8a : Enters PP 123:=enters_of Tryz.func123 (by kernel_rfl) rfl
def Q8A : List (Nat × (List Nat × List Nat × List Nat)):=[]
def Q8P : List Nat:=[0,2,3,5]
noncomputable def Q9l : Code:=(Tryz.f123.body).getD .skip
theorem X9v : Txt PP X1X Tryz.f123 Q9l Q8A:=⟨X8a,Tryz.func123,rfl,by kernel_rfl,by kernel_rfl⟩
attribute [go_sem] Q9l Q8P Q8A Tryz.f123
abbrev Q2L : Nat:=124
theorem Q6A : Enters PP 124:=enters_of Tryz.func124 (by kernel_rfl) rfl
def Q2h : List (Nat × (List Nat × List Nat × List Nat)):=[]
def Q2p : List Nat:=[0,1,4,5,7,8,9,16]
noncomputable def Q2u : Code:=(Tryz.f124.body).getD .skip
theorem Q8d : Txt PP Q2L Tryz.f124 Q2u Q2h:=⟨Q6A,Tryz.func124,rfl,by kernel_rfl,by kernel_rfl⟩
attribute [go_sem] Q2u Q2p Q2h Tryz.f124
abbrev Q4K : Nat:=125
theorem X0l : Enters PP 125:=enters_of Tryz.func125 (by kernel_rfl) rfl
def Q3C : List (Nat × (List Nat × List Nat × List Nat)):=[]
def Q3J : List Nat:=[0,1,2,3,4]
noncomputable def Q3Q : Code:=(Tryz.f125.body).getD .skip
theorem X2y : Txt PP Q4K Tryz.f125 Q3Q Q3C:=⟨X0l,Tryz.func125,rfl,by kernel_rfl,by kernel_rfl⟩
attribute [go_sem] Q3Q Q3J Q3C Tryz.f125
abbrev Q3p : Nat:=126
theorem Q8c : Enters PP 126:=enters_of Tryz.func126 (by kernel_rfl) rfl
def Q2C : List (Nat × (List Nat × List Nat × List Nat)):=[]
def Q2G : List Nat:=[0,1,2,3,4,5,15,21]
noncomputable def Q2J : Code:=(Tryz.f126.body).getD .skip
theorem Q9v : Txt PP Q3p Tryz.f126 Q2J Q2C:=⟨Q8c,Tryz.func126,rfl,by kernel_rfl,by kernel_rfl⟩
attribute [go_sem] Q2J Q2G Q2C Tryz.f126
abbrev Q3o : Nat:=127
theorem Q8b : Enters PP 127:=enters_of Tryz.func127 (by kernel_rfl) rfl
def Q2B : List (Nat × (List Nat × List Nat × List Nat)):=[]
def Q2F : List Nat:=[0,1,2,3,4,5]
noncomputable def Q2I : Code:=(Tryz.f127.body).getD .skip
theorem Q9u : Txt PP Q3o Tryz.f127 Q2I Q2B:=⟨Q8b,Tryz.func127,rfl,by kernel_rfl,by kernel_rfl⟩
attribute [go_sem] Q2I Q2F Q2B Tryz.f127
abbrev Q7W : Nat:=128
theorem X5l : Enters PP 128:=enters_of Tryz.func128 (by kernel_rfl) rfl
def Q5E : List (Nat × (List Nat × List Nat × List Nat)):=[]
def Q5P : List Nat:=[0,1,4,5,6,7,8,9,17]
noncomputable def Q6e : Code:=(Tryz.f128.body).getD .skip
theorem X6G : Txt PP Q7W Tryz.f128 Q6e Q5E:=⟨X5l,Tryz.func128,rfl,by kernel_rfl,by kernel_rfl⟩
attribute [go_sem] Q6e Q5P Q5E Tryz.f128
abbrev X8G : Nat:=129
theorem Y2I : Enters PP 129:=enters_of Tryz.func129 (by kernel_rfl) rfl
def X5A : List (Nat × (List Nat × List Nat × List Nat)):=[]
def X5F : List Nat:=[0,1,2,6,7,8,9,10,11,12,13,14,29]
noncomputable def X5P : Code:=(Tryz.f129.body).getD .skip
theorem Y3Y : Txt PP X8G Tryz.f129 X5P X5A:=⟨Y2I,Tryz.func129,rfl,by kernel_rfl,by kernel_rfl⟩
attribute [go_sem] X5P X5F X5A Tryz.f129
abbrev X8K : Nat:=130
theorem Y2M : Enters PP 130:=enters_of Tryz.func130 (by kernel_rfl) rfl
def X5E : List (Nat × (List Nat × List Nat × List Nat)):=[]
def X5J : List Nat:=[0,1,4,5,6,7,8,9,10,11]
noncomputable def X5T : Code:=(Tryz.f130.body).getD .skip
theorem Y4c : Txt PP X8K Tryz.f130 X5T X5E:=⟨Y2M,Tryz.func130,rfl,by kernel_rfl,by kernel_rfl⟩
attribute [go_sem] X5T X5J X5E Tryz.f130
abbrev X2A : Nat:=131
theorem Y2H : Enters PP 131:=enters_of Tryz.func131 (by kernel_rfl) rfl
def X5z : List (Nat × (List Nat × List Nat × List Nat)):=[]
def Q8O : List Nat:=[0,2,14]
noncomputable def X5O : Code:=(Tryz.f131.body).getD .skip
theorem X8D : Txt PP X2A Tryz.f131 X5O X5z:=⟨Y2H,Tryz.func131,rfl,by kernel_rfl,by kernel_rfl⟩
attribute [go_sem] X5O Q8O X5z Tryz.f131
abbrev X8H : Nat:=132
theorem Y2J : Enters PP 132:=enters_of Tryz.func132 (by kernel_rfl) rfl
def X5B : List (Nat × (List Nat × List Nat × List Nat)):=[]
def X5G : List Nat:=[0,1,4,5,6,7,8,13,20,21,22,23,33]
noncomputable def X5Q : Code:=(Tryz.f132.body).getD .skip
theorem Y3Z : Txt PP X8H Tryz.f132 X5Q X5B:=⟨Y2J,Tryz.func132,rfl,by kernel_rfl,by kernel_rfl⟩
attribute [go_sem] X5Q X5G X5B Tryz.f132
abbrev X6d : Nat:=133
theorem Y1g : Enters PP 133:=enters_of Tryz.func133 (by kernel_rfl) rfl
def X2Z : List (Nat × (List Nat × List Nat × List Nat)):=[]
def X3s : List Nat:=[0,1,4,5,6,7,8,12,13,14,15,25,33]
noncomputable def X3S : Code:=(Tryz.f133.body).getD .skip
theorem Y3c : Txt PP X6d Tryz.f133 X3S X2Z:=⟨Y1g,Tryz.func133,rfl,by kernel_rfl,by kernel_rfl⟩
attribute [go_sem] X3S X3s X2Z Tryz.f133
abbrev Q2U : Nat:=134
theorem X7Y : Enters PP 134:=enters_of Tryz.func134 (by kernel_rfl) rfl
def Q8y : List (Nat × (List Nat × List Nat × List Nat)):=[]
def Q2o : List Nat:=[0,2,3,15]
noncomputable def Q9j : Code:=(Tryz.f134.body).getD .skip
theorem Q5t : Txt PP Q2U Tryz.f134 Q9j Q8y:=⟨X7Y,Tryz.func134,rfl,by kernel_rfl,by kernel_rfl⟩
attribute [go_sem] Q9j Q2o Q8y Tryz.f134
abbrev Q9O : Nat:=135
theorem X6B : Enters PP 135:=enters_of Tryz.func135 (by kernel_rfl) rfl
def Q7c : List (Nat × (List Nat × List Nat × List Nat)):=[]
def Q7v : List Nat:=[0,1,2]
noncomputable def Q7Q : Code:=(Tryz.f135.body).getD .skip
theorem X8E : Txt PP Q9O Tryz.f135 Q7Q Q7c:=⟨X6B,Tryz.func135,rfl,by kernel_rfl,by kernel_rfl⟩
attribute [go_sem] Q7Q Q7v Q7c Tryz.f135
abbrev X6g : Nat:=136
theorem Y1k : Enters PP 136:=enters_of Tryz.func136 (by kernel_rfl) rfl
def X3c : List (Nat × (List Nat × List Nat × List Nat)):=[]
def X3w : List Nat:=[0,2,19]
noncomputable def X3W : Code:=(Tryz.f136.body).getD .skip
theorem Y3f : Txt PP X6g Tryz.f136 X3W X3c:=⟨Y1k,Tryz.func136,rfl,by kernel_rfl,by kernel_rfl⟩
attribute [go_sem] X3W X3w X3c Tryz.f136
abbrev X4y : Nat:=137
theorem X9e : Enters PP 137:=enters_of Tryz.func137 (by kernel_rfl) rfl
def X0G : List (Nat × (List Nat × List Nat × List Nat)):=[]
def X1h : List Nat:=[0,1,4,5,6,7,8,23,30,40]
noncomputable def X1H : Code:=(Tryz.f137.body).getD .skip
theorem Y1K : Txt PP X4y Tryz.f137 X1H X0G:=⟨X9e,Tryz.func137,rfl,by kernel_rfl,by kernel_rfl⟩
attribute [go_sem] X1H X1h X0G Tryz.f137
abbrev X4w : Nat:=138
theorem X9c : Enters PP 138:=enters_of Tryz.func138 (by kernel_rfl) rfl
def X0E : List (Nat × (List Nat × List Nat × List Nat)):=[]
def X1f : List Nat:=[0,1,4,5,10,15,20,31,40]
noncomputable def X1F : Code:=(Tryz.f138.body).getD .skip
theorem Y1I : Txt PP X4w Tryz.f138 X1F X0E:=⟨X9c,Tryz.func138,rfl,by kernel_rfl,by kernel_rfl⟩
attribute [go_sem] X1F X1f X0E Tryz.f138
abbrev X4s : Nat:=139
theorem X8Y : Enters PP 139:=enters_of Tryz.func139 (by kernel_rfl) rfl
def X0A : List (Nat × (List Nat × List Nat × List Nat)):=[]
def X1b : List Nat:=[0,1,4,5,6,7,8,11,12,13,24,32]
noncomputable def X1B : Code:=(Tryz.f139.body).getD .skip
theorem Y1E : Txt PP X4s Tryz.f139 X1B X0A:=⟨X8Y,Tryz.func139,rfl,by kernel_rfl,by kernel_rfl⟩
attribute [go_sem] X1B X1b X0A Tryz.f139
abbrev X4v : Nat:=140
theorem X9b : Enters PP 140:=enters_of Tryz.func140 (by kernel_rfl) rfl
def X0D : List (Nat × (List Nat × List Nat × List Nat)):=[]
def X1e : List Nat:=[0,1,4,5,6,7,8,9,10,11,14,34,48]
noncomputable def X1E : Code:=(Tryz.f140.body).getD .skip
theorem Y1H : Txt PP X4v Tryz.f140 X1E X0D:=⟨X9b,Tryz.func140,rfl,by kernel_rfl,by kernel_rfl⟩
attribute [go_sem] X1E X1e X0D Tryz.f140
abbrev X4q : Nat:=141
theorem X8W : Enters PP 141:=enters_of Tryz.func141 (by kernel_rfl) rfl
def X0y : List (Nat × (List Nat × List Nat × List Nat)):=[]
def X0Z : List Nat:=[0,1,2,3,4,5,13,21]
noncomputable def X1z : Code:=(Tryz.f141.body).getD .skip
theorem Y1C : Txt PP X4q Tryz.f141 X1z X0y:=⟨X8W,Tryz.func141,rfl,by kernel_rfl,by kernel_rfl⟩
attribute [go_sem] X1z X0Z X0y Tryz.f141
abbrev Q9F : Nat:=142
theorem X6r : Enters PP 142:=enters_of Tryz.func142 (by kernel_rfl) rfl
def Q6S : List (Nat × (List Nat × List Nat × List Nat)):=[]
def Q7m : List Nat:=[0,2,3,4,5,14,19]
noncomputable def Q7G : Code:=(Tryz.f142.body).getD .skip
theorem X8u : Txt PP Q9F Tryz.f142 Q7G Q6S:=⟨X6r,Tryz.func142,rfl,by kernel_rfl,by kernel_rfl⟩
attribute [go_sem] Q7G Q7m Q6S Tryz.f142
abbrev Q9D : Nat:=143
theorem X6p : Enters PP 143:=enters_of Tryz.func143 (by kernel_rfl) rfl
def Q6Q : List (Nat × (List Nat × List Nat × List Nat)):=[]
def Q7k : List Nat:=[0,1,4,5,7]
noncomputable def Q7E : Code:=(Tryz.f143.body).getD .skip
theorem X8s : Txt PP Q9D Tryz.f143 Q7E Q6Q:=⟨X6p,Tryz.func143,rfl,by kernel_rfl,by kernel_rfl⟩
attribute [go_sem] Q7E Q7k Q6Q Tryz.f143
abbrev Q2V : Nat:=144
theorem X8e : Enters PP 144:=enters_of Tryz.func144 (by kernel_rfl) rfl
def Q8E : List (Nat × (List Nat × List Nat × List Nat)):=[]
def Q8S : List Nat:=[0,2]
noncomputable def Q9p : Code:=(Tryz.f144.body).getD .skip
theorem X9y : Txt PP Q2V Tryz.f144 Q9p Q8E:=⟨X8e,Tryz.func144,rfl,by kernel_rfl,by kernel_rfl⟩
attribute [go_sem] Q9p Q8S Q8E Tryz.f144
abbrev Q9C : Nat:=145
theorem X6o : Enters PP 145:=enters_of Tryz.func145 (by kernel_rfl) rfl
def Q6P : List (Nat × (List Nat × List Nat × List Nat)):=[]
def Q7j : List Nat:=[0,1,4,5,6,7,8,9,17]
noncomputable def Q7D : Code:=(Tryz.f145.body).getD .skip
theorem X8r : Txt PP Q9C Tryz.f145 Q7D Q6P:=⟨X6o,Tryz.func145,rfl,by kernel_rfl,by kernel_rfl⟩
attribute [go_sem] Q7D Q7j Q6P Tryz.f145
abbrev Q9E : Nat:=146
theorem X6q : Enters PP 146:=enters_of Tryz.func146 (by kernel_rfl) rfl
def Q6R : List (Nat × (List Nat × List Nat × List Nat)):=[]
def Q7l : List Nat:=[0,1,4,5,6,7,8,9,20,46,58]
noncomputable def Q7F : Code:=(Tryz.f146.body).getD .skip
theorem X8t : Txt PP Q9E Tryz.f146 Q7F Q6R:=⟨X6q,Tryz.func146,rfl,by kernel_rfl,by kernel_rfl⟩
attribute [go_sem] Q7F Q7l Q6R Tryz.f146
end Go.Proofs.YtchlpclgkhggeaaGreat