/- part of the proof -/
import Derived.Test.YtchlpclgkhggeaaGreatTTy
import Derived.Test.YtchlpclgkhggeaaGreatTFc
import Derived.Test.YtchlpclgkhggeaaGreatChecked
namespace Go.Proofs.YtchlpclgkhggeaaGreat
open Go Go.RowKit
set_option linter.unusedVariables false
set_option linter.unusedSimpArgs false
theorem fol : PP.follows .mixedOrders = true:=by kernel_rfl
theorem tx {f : FuncId} {fn : Func} {c : Code} {or : List (Nat × (List Nat × List Nat × List Nat))} (t : Txt PP f fn c or) (ke : List Nat) {args : List V} {r : V} (fz : List (Nat × List Nat)) (ha : Nat.ble args.length fn.ntmps = true) (h : awp PP ⟨ke,fz,or,[],[],0⟩ c (RetS PP fn.results.toList r) ⟨initTm 0 args,[]⟩) : PC PP f args r [] :=
 PC.intro fol (an:=⟨ke,fz,or,[],[],0⟩) t.en t.hf t.hb t.hd t.hw ha h
theorem txe {f : FuncId} {fn : Func} {c : Code} {or : List (Nat × (List Nat × List Nat × List Nat))} (t : Txt PP f fn c or) (ke : List Nat) {args : List V} {r : V} (fz : List (Nat × List Nat)) (en mu : List Nat) (ha : Nat.ble args.length fn.ntmps = true) (h : awp PP ⟨ke,fz,or,en,mu,0⟩ c (RetS PP fn.results.toList r) ⟨initTm 0 args,[]⟩) : PC PP f args r [] :=
 PC.intro fol (an:=⟨ke,fz,or,en,mu,0⟩) t.en t.hf t.hb t.hd t.hw ha h
theorem txg {f : FuncId} {fn : Func} {c : Code} {or : List (Nat × (List Nat × List Nat × List Nat))} (t : Txt PP f fn c or) (ke : List Nat) {args : List V} {r : V} {H0 H1 : List Ob} (n0 : Nat) (fz : List (Nat × List Nat)) (en mu : List Nat) (hn : H0.length = n0) (ha : Nat.ble args.length fn.ntmps = true) (h : awp PP ⟨ke,fz,or,en,mu,n0⟩ c (RetG PP n0 fn.results.toList r H1) ⟨initTm 0 args,H0⟩) : GC PP f args H0 r H1 :=
 GC.intro fol (an:=⟨ke,fz,or,en,mu,n0⟩) t.en t.hf t.hb t.hd t.hw ha hn h
theorem txi {f : FuncId} {fn : Func} {c : Code} {or : List (Nat × (List Nat × List Nat × List Nat))} (t : Txt PP f fn c or) (ke : List Nat) {args : List V} {r : V} {H H1 : List Ob} (fz : List (Nat × List Nat)) (en mu : List Nat) (ha : Nat.ble args.length fn.ntmps = true) (h : awp PP ⟨ke,fz,or,en,mu,H.length⟩ c (RetI PP fn.results.toList r H1) ⟨initTm 0 args,H⟩) : IC PP f args H r H1 :=
 IC.intro fol (an:=⟨ke,fz,or,en,mu,H.length⟩) t.en t.hf t.hb t.hd t.hw ha rfl h
theorem txb {f : FuncId} {fn : Func} {c : Code} {or : List (Nat × (List Nat × List Nat × List Nat))} (t : Txt PP f fn c or) (ke : List Nat) {args : List V} {r : V} {H1 : List Ob} (fz : List (Nat × List Nat)) (en mu : List Nat) (ha : Nat.ble args.length fn.ntmps = true) (h : awp PP ⟨ke,fz,or,en,mu,0⟩ c (RetB PP fn.results.toList r H1) ⟨initTm 0 args,[]⟩) : PB PP f args r H1 :=
 PB.intro fol (an:=⟨ke,fz,or,en,mu,0⟩) t.en t.hf t.hb t.hd t.hw ha rfl h
abbrev T_int : Nat:=3
abbrev X8v : Nat:=4
abbrev Q1B : Nat:=22
abbrev Q1K : Nat:=24
abbrev Q0c : Nat:=26
abbrev Q0X : Nat:=28
abbrev Q0m : Nat:=30
abbrev Q1o : Nat:=32
abbrev Q0h : Nat:=34
abbrev Q1b : Nat:=49
abbrev Q0a : Nat:=71
abbrev Q4x : Nat:=77
abbrev Q0i : Nat:=80
abbrev Q0b : Nat:=83
attribute [go_sem] Tryz.f3
attribute [go_sem] Tryz.f4
abbrev Q0G : Nat:=5
theorem Q8S : Enters PP 5:=enters_of Tryz.func5 (by kernel_rfl) rfl
def Q2T : List (Nat × (List Nat × List Nat × List Nat)):=[]
def Q2Z : List Nat:=[0,1,2,3,4,5,6,7,8,9,10,11,12,13,18,40,45,61,69,72,87,92,95]
noncomputable def Q3f : Code:=(Tryz.f5.body).getD .skip
theorem X0b : Txt PP Q0G Tryz.f5 Q3f Q2T:=⟨Q8S,Tryz.func5,rfl,by kernel_rfl,by kernel_rfl⟩
attribute [go_sem] Q3f Q2Z Q2T Tryz.f5
attribute [go_sem] Tryz.f6
abbrev Q7P : Nat:=7
theorem X5f : Enters PP 7:=enters_of Tryz.func7 (by kernel_rfl) rfl
def Q5B : List (Nat × (List Nat × List Nat × List Nat)):=[]
def Q5M : List Nat:=[0,1,2,4,10,16,22]
noncomputable def Q6b : Code:=(Tryz.f7.body).getD .skip
theorem X6x : Txt PP Q7P Tryz.f7 Q6b Q5B:=⟨X5f,Tryz.func7,rfl,by kernel_rfl,by kernel_rfl⟩
attribute [go_sem] Q6b Q5M Q5B Tryz.f7
attribute [go_sem] Tryz.f8
abbrev Q3q : Nat:=9
theorem X5e : Enters PP 9:=enters_of Tryz.func9 (by kernel_rfl) rfl
def Q5A : List (Nat × (List Nat × List Nat × List Nat)):=[]
def Q2L : List Nat:=[0,1,2,3]
noncomputable def Q6a : Code:=(Tryz.f9.body).getD .skip
theorem Q7M : Txt PP Q3q Tryz.f9 Q6a Q5A:=⟨X5e,Tryz.func9,rfl,by kernel_rfl,by kernel_rfl⟩
attribute [go_sem] Q6a Q2L Q5A Tryz.f9
abbrev Q1W : Nat:=10
theorem Q9X : Enters PP 10:=enters_of Tryz.func10 (by kernel_rfl) rfl
def Q0N : List Nat:=[0,1,2,3,4,5,6,8,11,19,26,27,28,29]
noncomputable def Q3I : Code:=(Tryz.f10.body).getD .skip
attribute [go_sem] Q3I Q0N Tryz.f10
attribute [go_sem] Tryz.f11
abbrev Q7Q : Nat:=12
theorem X5g : Enters PP 12:=enters_of Tryz.func12 (by kernel_rfl) rfl
def Q5C : List (Nat × (List Nat × List Nat × List Nat)):=[]
def Q5N : List Nat:=[0,1,2,3,4,9,14,20,26,32]
noncomputable def Q6c : Code:=(Tryz.f12.body).getD .skip
theorem X6y : Txt PP Q7Q Tryz.f12 Q6c Q5C:=⟨X5g,Tryz.func12,rfl,by kernel_rfl,by kernel_rfl⟩
attribute [go_sem] Q6c Q5N Q5C Tryz.f12
abbrev Q5f : Nat:=13
theorem X2d : Enters PP 13:=enters_of Tryz.func13 (by kernel_rfl) rfl
def Q3Y : List (Nat × (List Nat × List Nat × List Nat)):=[]
def Q4h : List Nat:=[0,1,2,4]
noncomputable def Q4p : Code:=(Tryz.f13.body).getD .skip
theorem X3Y : Txt PP Q5f Tryz.f13 Q4p Q3Y:=⟨X2d,Tryz.func13,rfl,by kernel_rfl,by kernel_rfl⟩
attribute [go_sem] Q4p Q4h Q3Y Tryz.f13
attribute [go_sem] Tryz.f14
attribute [go_sem] Tryz.f15
attribute [go_sem] Tryz.f16
attribute [go_sem] Tryz.f17
abbrev Q6E : Nat:=18
theorem X8Y : Enters PP 18:=enters_of Tryz.func18 (by kernel_rfl) rfl
def X0y : List (Nat × (List Nat × List Nat × List Nat)):=[]
def X1b : List Nat:=[0,1,2,3,4,7,13]
noncomputable def X1C : Code:=(Tryz.f18.body).getD .skip
theorem Y1I : Txt PP Q6E Tryz.f18 X1C X0y:=⟨X8Y,Tryz.func18,rfl,by kernel_rfl,by kernel_rfl⟩
attribute [go_sem] X1C X1b X0y Tryz.f18
abbrev Q6H : Nat:=19
theorem X9g : Enters PP 19:=enters_of Tryz.func19 (by kernel_rfl) rfl
def X0G : List (Nat × (List Nat × List Nat × List Nat)):=[(3,[0,2,3,1,4,5,6,7,8],[],[])]
def Q5q : List Nat:=[0,1,2,3,5]
noncomputable def X1K : Code:=(Tryz.f19.body).getD .skip
theorem X4c : Txt PP Q6H Tryz.f19 X1K X0G:=⟨X9g,Tryz.func19,rfl,by kernel_rfl,by kernel_rfl⟩
attribute [go_sem] X1K Q5q X0G Tryz.f19
abbrev X4y : Nat:=20
theorem X9b : Enters PP 20:=enters_of Tryz.func20 (by kernel_rfl) rfl
def X0B : List (Nat × (List Nat × List Nat × List Nat)):=[]
def X1d : List Nat:=[0,1,4,5,10,14,26]
noncomputable def X1F : Code:=(Tryz.f20.body).getD .skip
theorem Y1K : Txt PP X4y Tryz.f20 X1F X0B:=⟨X9b,Tryz.func20,rfl,by kernel_rfl,by kernel_rfl⟩
attribute [go_sem] X1F X1d X0B Tryz.f20
abbrev Q9z : Nat:=21
theorem X6p : Enters PP 21:=enters_of Tryz.func21 (by kernel_rfl) rfl
def Q6V : List (Nat × (List Nat × List Nat × List Nat)):=[]
def Q7n : List Nat:=[0,1,4,5,9]
noncomputable def Q7G : Code:=(Tryz.f21.body).getD .skip
theorem X8o : Txt PP Q9z Tryz.f21 Q7G Q6V:=⟨X6p,Tryz.func21,rfl,by kernel_rfl,by kernel_rfl⟩
attribute [go_sem] Q7G Q7n Q6V Tryz.f21
abbrev Q9B : Nat:=22
theorem X6r : Enters PP 22:=enters_of Tryz.func22 (by kernel_rfl) rfl
def Q6X : List (Nat × (List Nat × List Nat × List Nat)):=[]
def Q7p : List Nat:=[0,1,4,5,9,21,33,42]
noncomputable def Q7I : Code:=(Tryz.f22.body).getD .skip
theorem X8q : Txt PP Q9B Tryz.f22 Q7I Q6X:=⟨X6r,Tryz.func22,rfl,by kernel_rfl,by kernel_rfl⟩
attribute [go_sem] Q7I Q7p Q6X Tryz.f22
attribute [go_sem] Tryz.f23
attribute [go_sem] Tryz.f24
abbrev X4x : Nat:=25
theorem X9a : Enters PP 25:=enters_of Tryz.func25 (by kernel_rfl) rfl
def X0A : List (Nat × (List Nat × List Nat × List Nat)):=[]
def X1c : List Nat:=[0,1,4,10]
noncomputable def X1E : Code:=(Tryz.f25.body).getD .skip
theorem Y1J : Txt PP X4x Tryz.f25 X1E X0A:=⟨X9a,Tryz.func25,rfl,by kernel_rfl,by kernel_rfl⟩
attribute [go_sem] X1E X1c X0A Tryz.f25
abbrev Q7O : Nat:=26
theorem X5d : Enters PP 26:=enters_of Tryz.func26 (by kernel_rfl) rfl
def Q5z : List (Nat × (List Nat × List Nat × List Nat)):=[]
def Q5L : List Nat:=[0,1,2]
noncomputable def Q5Z : Code:=(Tryz.f26.body).getD .skip
theorem X6w : Txt PP Q7O Tryz.f26 Q5Z Q5z:=⟨X5d,Tryz.func26,rfl,by kernel_rfl,by kernel_rfl⟩
attribute [go_sem] Q5Z Q5L Q5z Tryz.f26
abbrev Q4y : Nat:=27
theorem X6d : Enters PP 27:=enters_of Tryz.func27 (by kernel_rfl) rfl
def Q6K : List (Nat × (List Nat × List Nat × List Nat)):=[(8,[0,1,2,3,4,5,6,7,8,9,10,11,12,13],[5],[])]
def Q7b : List Nat:=[0,1,2,3,4,5,6,7,8,24,31,48,60,61,62,63]
noncomputable def Q7u : Code:=(Tryz.f27.body).getD .skip
theorem X8d : Txt PP Q4y Tryz.f27 Q7u Q6K:=⟨X6d,Tryz.func27,rfl,by kernel_rfl,by kernel_rfl⟩
attribute [go_sem] Q7u Q7b Q6K Tryz.f27
abbrev Q6F : Nat:=28
theorem X8Z : Enters PP 28:=enters_of Tryz.func28 (by kernel_rfl) rfl
def X0z : List (Nat × (List Nat × List Nat × List Nat)):=[]
def Q5o : List Nat:=[0,2,3,4,11]
noncomputable def X1D : Code:=(Tryz.f28.body).getD .skip
theorem X3X : Txt PP Q6F Tryz.f28 X1D X0z:=⟨X8Z,Tryz.func28,rfl,by kernel_rfl,by kernel_rfl⟩
attribute [go_sem] X1D Q5o X0z Tryz.f28
abbrev Q7T : Nat:=29
theorem X5j : Enters PP 29:=enters_of Tryz.func29 (by kernel_rfl) rfl
def Q5F : List (Nat × (List Nat × List Nat × List Nat)):=[]
def Q5Q : List Nat:=[0,1,2]
noncomputable def Q6f : Code:=(Tryz.f29.body).getD .skip
theorem X6B : Txt PP Q7T Tryz.f29 Q6f Q5F:=⟨X5j,Tryz.func29,rfl,by kernel_rfl,by kernel_rfl⟩
attribute [go_sem] Q6f Q5Q Q5F Tryz.f29
abbrev Q1z : Nat:=30
theorem Y1a : Enters PP 30:=enters_of Tryz.func30 (by kernel_rfl) rfl
def X2T : List (Nat × (List Nat × List Nat × List Nat)):=[]
def Q3R : List Nat:=[0,2,3,4,5,6,7,8,9,10,11,12,13,14,15,22,37,41,42,43,59,60,61,71,72,73,74,102,103,104,105]
noncomputable def X3M : Code:=(Tryz.f30.body).getD .skip
theorem Q9j : Txt PP Q1z Tryz.f30 X3M X2T:=⟨Y1a,Tryz.func30,rfl,by kernel_rfl,by kernel_rfl⟩
attribute [go_sem] X3M Q3R X2T Tryz.f30
abbrev Q5g : Nat:=31
theorem Y0Z : Enters PP 31:=enters_of Tryz.func31 (by kernel_rfl) rfl
def X2S : List (Nat × (List Nat × List Nat × List Nat)):=[(3,[0,1,2,3,5,6,7,8,4,9,10,11],[],[])]
def Q6w : List Nat:=[0,2,4]
noncomputable def X3L : Code:=(Tryz.f31.body).getD .skip
theorem X5Q : Txt PP Q5g Tryz.f31 X3L X2S:=⟨Y0Z,Tryz.func31,rfl,by kernel_rfl,by kernel_rfl⟩
attribute [go_sem] X3L Q6w X2S Tryz.f31
abbrev Y0a : Nat:=32
theorem Y3I : Enters PP 32:=enters_of Tryz.func32 (by kernel_rfl) rfl
def X7q : List (Nat × (List Nat × List Nat × List Nat)):=[]
def X7A : List Nat:=[0,2,17]
noncomputable def X7Z : Code:=(Tryz.f32.body).getD .skip
theorem Y5Y : Txt PP Y0a Tryz.f32 X7Z X7q:=⟨Y3I,Tryz.func32,rfl,by kernel_rfl,by kernel_rfl⟩
attribute [go_sem] X7Z X7A X7q Tryz.f32
abbrev X5W : Nat:=33
theorem Y0W : Enters PP 33:=enters_of Tryz.func33 (by kernel_rfl) rfl
def X2P : List (Nat × (List Nat × List Nat × List Nat)):=[]
def X3k : List Nat:=[0,1,2,3,4,10,16]
noncomputable def X3I : Code:=(Tryz.f33.body).getD .skip
theorem Y2U : Txt PP X5W Tryz.f33 X3I X2P:=⟨Y0W,Tryz.func33,rfl,by kernel_rfl,by kernel_rfl⟩
attribute [go_sem] X3I X3k X2P Tryz.f33
abbrev X4z : Nat:=34
theorem X9c : Enters PP 34:=enters_of Tryz.func34 (by kernel_rfl) rfl
def X0C : List (Nat × (List Nat × List Nat × List Nat)):=[]
def X1e : List Nat:=[0,1,4,5,10,14,25]
noncomputable def X1G : Code:=(Tryz.f34.body).getD .skip
theorem Y1L : Txt PP X4z Tryz.f34 X1G X0C:=⟨X9c,Tryz.func34,rfl,by kernel_rfl,by kernel_rfl⟩
attribute [go_sem] X1G X1e X0C Tryz.f34
abbrev Q9A : Nat:=35
theorem X6q : Enters PP 35:=enters_of Tryz.func35 (by kernel_rfl) rfl
def Q6W : List (Nat × (List Nat × List Nat × List Nat)):=[]
def Q7o : List Nat:=[0,1,4,5,9]
noncomputable def Q7H : Code:=(Tryz.f35.body).getD .skip
theorem X8p : Txt PP Q9A Tryz.f35 Q7H Q6W:=⟨X6q,Tryz.func35,rfl,by kernel_rfl,by kernel_rfl⟩
attribute [go_sem] Q7H Q7o Q6W Tryz.f35
attribute [go_sem] Tryz.f36
attribute [go_sem] Tryz.f37
abbrev X4h : Nat:=38
theorem X8I : Enters PP 38:=enters_of Tryz.func38 (by kernel_rfl) rfl
def X0i : List (Nat × (List Nat × List Nat × List Nat)):=[(1,[0,1,2,3,4,5,6,8,9,10,7,11,12,13],[],[])]
def X0L : List Nat:=[0,1,2]
noncomputable def X1m : Code:=(Tryz.f38.body).getD .skip
theorem Y1s : Txt PP X4h Tryz.f38 X1m X0i:=⟨X8I,Tryz.func38,rfl,by kernel_rfl,by kernel_rfl⟩
attribute [go_sem] X1m X0L X0i Tryz.f38
attribute [go_sem] Tryz.f39
abbrev X1N : Nat:=40
theorem X7L : Enters PP 40:=enters_of Tryz.func40 (by kernel_rfl) rfl
def Q8n : List (Nat × (List Nat × List Nat × List Nat)):=[]
def Q8D : List Nat:=[0,1,2]
noncomputable def Q8X : Code:=(Tryz.f40.body).getD .skip
theorem X9j : Txt PP X1N Tryz.f40 Q8X Q8n:=⟨X7L,Tryz.func40,rfl,by kernel_rfl,by kernel_rfl⟩
attribute [go_sem] Q8X Q8D Q8n Tryz.f40
abbrev Q5e : Nat:=41
theorem X2c : Enters PP 41:=enters_of Tryz.func41 (by kernel_rfl) rfl
def Q3X : List (Nat × (List Nat × List Nat × List Nat)):=[(3,[0,1,2,3,4,5,6,7,8,10,11,12,9,13,14,15,16],[23,3],[])]
def Q1P : List Nat:=[0,1,2,3,5,8,26,27,28,29]
noncomputable def Q4o : Code:=(Tryz.f41.body).getD .skip
theorem Q5a : Txt PP Q5e Tryz.f41 Q4o Q3X:=⟨X2c,Tryz.func41,rfl,by kernel_rfl,by kernel_rfl⟩
attribute [go_sem] Q4o Q1P Q3X Tryz.f41
abbrev X1M : Nat:=42
theorem X7K : Enters PP 42:=enters_of Tryz.func42 (by kernel_rfl) rfl
def Q8m : List (Nat × (List Nat × List Nat × List Nat)):=[]
def Q8C : List Nat:=[0,1,4,5,6,10]
noncomputable def Q8W : Code:=(Tryz.f42.body).getD .skip
theorem X9i : Txt PP X1M Tryz.f42 Q8W Q8m:=⟨X7K,Tryz.func42,rfl,by kernel_rfl,by kernel_rfl⟩
attribute [go_sem] Q8W Q8C Q8m Tryz.f42
abbrev Q7S : Nat:=43
theorem X5i : Enters PP 43:=enters_of Tryz.func43 (by kernel_rfl) rfl
def Q5E : List (Nat × (List Nat × List Nat × List Nat)):=[]
def Q5P : List Nat:=[0,2]
noncomputable def Q6e : Code:=(Tryz.f43.body).getD .skip
theorem X6A : Txt PP Q7S Tryz.f43 Q6e Q5E:=⟨X5i,Tryz.func43,rfl,by kernel_rfl,by kernel_rfl⟩
attribute [go_sem] Q6e Q5P Q5E Tryz.f43
abbrev Q5j : Nat:=44
theorem X2g : Enters PP 44:=enters_of Tryz.func44 (by kernel_rfl) rfl
def Q4b : List (Nat × (List Nat × List Nat × List Nat)):=[]
def Q1Q : List Nat:=[0,1,2,4,5,6,7,8,9,10,15,23,27,28,29]
noncomputable def Q4s : Code:=(Tryz.f44.body).getD .skip
theorem Q5b : Txt PP Q5j Tryz.f44 Q4s Q4b:=⟨X2g,Tryz.func44,rfl,by kernel_rfl,by kernel_rfl⟩
attribute [go_sem] Q4s Q1Q Q4b Tryz.f44
abbrev Q5k : Nat:=45
theorem X2i : Enters PP 45:=enters_of Tryz.func45 (by kernel_rfl) rfl
def Q4d : List (Nat × (List Nat × List Nat × List Nat)):=[(7,[0,1,2,3,4,5,6,7,8,9,10,11,12,13,14,15],[],[23])]
def Q1S : List Nat:=[0,1,2,3,4,5,7,13,14,15,16]
noncomputable def Q4u : Code:=(Tryz.f45.body).getD .skip
theorem Q5d : Txt PP Q5k Tryz.f45 Q4u Q4d:=⟨X2i,Tryz.func45,rfl,by kernel_rfl,by kernel_rfl⟩
attribute [go_sem] Q4u Q1S Q4d Tryz.f45
abbrev Q9C : Nat:=46
theorem X6s : Enters PP 46:=enters_of Tryz.func46 (by kernel_rfl) rfl
def Q6Y : List (Nat × (List Nat × List Nat × List Nat)):=[]
def Q7q : List Nat:=[0,1,4,5,9,17]
noncomputable def Q7J : Code:=(Tryz.f46.body).getD .skip
theorem X8r : Txt PP Q9C Tryz.f46 Q7J Q6Y:=⟨X6s,Tryz.func46,rfl,by kernel_rfl,by kernel_rfl⟩
attribute [go_sem] Q7J Q7q Q6Y Tryz.f46
attribute [go_sem] Tryz.f47
attribute [go_sem] Tryz.f48
abbrev X5S : Nat:=49
theorem Y0S : Enters PP 49:=enters_of Tryz.func49 (by kernel_rfl) rfl
def X2L : List (Nat × (List Nat × List Nat × List Nat)):=[]
def X3g : List Nat:=[0,1,2,6]
noncomputable def X3E : Code:=(Tryz.f49.body).getD .skip
theorem Y2Q : Txt PP X5S Tryz.f49 X3E X2L:=⟨Y0S,Tryz.func49,rfl,by kernel_rfl,by kernel_rfl⟩
attribute [go_sem] X3E X3g X2L Tryz.f49
abbrev X5R : Nat:=50
theorem Y0R : Enters PP 50:=enters_of Tryz.func50 (by kernel_rfl) rfl
def X2K : List (Nat × (List Nat × List Nat × List Nat)):=[]
def X3f : List Nat:=[0,2,4,5,6,7,8,13]
noncomputable def X3D : Code:=(Tryz.f50.body).getD .skip
theorem Y2P : Txt PP X5R Tryz.f50 X3D X2K:=⟨Y0R,Tryz.func50,rfl,by kernel_rfl,by kernel_rfl⟩
attribute [go_sem] X3D X3f X2K Tryz.f50
abbrev Q9q : Nat:=51
theorem X6g : Enters PP 51:=enters_of Tryz.func51 (by kernel_rfl) rfl
def Q6M : List (Nat × (List Nat × List Nat × List Nat)):=[]
def Q7e : List Nat:=[0,1,2,3,4,5,6,7,9,10,11,12,25,41,49,53,54,55,56,70,75,93,94,95,108]
noncomputable def Q7x : Code:=(Tryz.f51.body).getD .skip
theorem X8f : Txt PP Q9q Tryz.f51 Q7x Q6M:=⟨X6g,Tryz.func51,rfl,by kernel_rfl,by kernel_rfl⟩
attribute [go_sem] Q7x Q7e Q6M Tryz.f51
abbrev Q3S : Nat:=52
theorem X8F : Enters PP 52:=enters_of Tryz.func52 (by kernel_rfl) rfl
def X0f : List (Nat × (List Nat × List Nat × List Nat)):=[]
def X0I : List Nat:=[0,1,4,5,6,7,17,30,33,38]
noncomputable def X1j : Code:=(Tryz.f52.body).getD .skip
theorem Y1p : Txt PP Q3S Tryz.f52 X1j X0f:=⟨X8F,Tryz.func52,rfl,by kernel_rfl,by kernel_rfl⟩
attribute [go_sem] X1j X0I X0f Tryz.f52
abbrev Q5v : Nat:=53
theorem X7Q : Enters PP 53:=enters_of Tryz.func53 (by kernel_rfl) rfl
def Q8s : List (Nat × (List Nat × List Nat × List Nat)):=[]
def Q8H : List Nat:=[0,1,2,3,14]
noncomputable def Q9c : Code:=(Tryz.f53.body).getD .skip
theorem X9n : Txt PP Q5v Tryz.f53 Q9c Q8s:=⟨X7Q,Tryz.func53,rfl,by kernel_rfl,by kernel_rfl⟩
attribute [go_sem] Q9c Q8H Q8s Tryz.f53
abbrev Q7N : Nat:=54
theorem X5b : Enters PP 54:=enters_of Tryz.func54 (by kernel_rfl) rfl
def Q5J : List Nat:=[0,1,2,4,5,6,7,8,9,10,11,12,13,18,19,20,37,51,64,95,96,97,98,111,157,158,159,160]
noncomputable def Q5X : Code:=(Tryz.f54.body).getD .skip
attribute [go_sem] Q5X Q5J Tryz.f54
abbrev Q6g : Nat:=55
theorem X3w : Enters PP 55:=enters_of Tryz.func55 (by kernel_rfl) rfl
def Q4L : List (Nat × (List Nat × List Nat × List Nat)):=[]
def Q4Q : List Nat:=[0,2]
noncomputable def Q4V : Code:=(Tryz.f55.body).getD .skip
theorem X5l : Txt PP Q6g Tryz.f55 Q4V Q4L:=⟨X3w,Tryz.func55,rfl,by kernel_rfl,by kernel_rfl⟩
attribute [go_sem] Q4V Q4Q Q4L Tryz.f55
abbrev X1P : Nat:=56
theorem X7N : Enters PP 56:=enters_of Tryz.func56 (by kernel_rfl) rfl
def Q8p : List (Nat × (List Nat × List Nat × List Nat)):=[(1,[0,1,2,3,4,5,6,9,10,11,7,8,12,13,14],[10,15],[])]
def Q8F : List Nat:=[0,1,2]
noncomputable def Q8Z : Code:=(Tryz.f56.body).getD .skip
theorem X9l : Txt PP X1P Tryz.f56 Q8Z Q8p:=⟨X7N,Tryz.func56,rfl,by kernel_rfl,by kernel_rfl⟩
attribute [go_sem] Q8Z Q8F Q8p Tryz.f56
abbrev Q6k : Nat:=57
theorem X3z : Enters PP 57:=enters_of Tryz.func57 (by kernel_rfl) rfl
def Q4O : List (Nat × (List Nat × List Nat × List Nat)):=[]
def Q4T : List Nat:=[0,2]
noncomputable def Q4Y : Code:=(Tryz.f57.body).getD .skip
theorem X5p : Txt PP Q6k Tryz.f57 Q4Y Q4O:=⟨X3z,Tryz.func57,rfl,by kernel_rfl,by kernel_rfl⟩
attribute [go_sem] Q4Y Q4T Q4O Tryz.f57
abbrev Q2c : Nat:=58
theorem Y1d : Enters PP 58:=enters_of Tryz.func58 (by kernel_rfl) rfl
def X3o : List Nat:=[0,2,3,4,5,6,7,8,9,10,11,12,13,14,15,34,35,36,48,51,52,53,54,117,118,119,138,149,150,151,152,175,181,182,183]
noncomputable def X3P : Code:=(Tryz.f58.body).getD .skip
attribute [go_sem] X3P X3o Tryz.f58
abbrev Q0v : Nat:=59
theorem Q5V : Enters PP 59:=enters_of Tryz.func59 (by kernel_rfl) rfl
def Q1X : List (Nat × (List Nat × List Nat × List Nat)):=[]
def Q1Z : List Nat:=[0,1,4,5,6,7,8,9,13,14,15,39,44,53,54,55,79]
noncomputable def Q2b : Code:=(Tryz.f59.body).getD .skip
theorem Q6D : Txt PP Q0v Tryz.f59 Q2b Q1X:=⟨Q5V,Tryz.func59,rfl,by kernel_rfl,by kernel_rfl⟩
attribute [go_sem] Q2b Q1Z Q1X Tryz.f59
abbrev X5X : Nat:=60
theorem Y0X : Enters PP 60:=enters_of Tryz.func60 (by kernel_rfl) rfl
def X2Q : List (Nat × (List Nat × List Nat × List Nat)):=[]
def X3l : List Nat:=[0,2]
noncomputable def X3J : Code:=(Tryz.f60.body).getD .skip
theorem Y2V : Txt PP X5X Tryz.f60 X3J X2Q:=⟨Y0X,Tryz.func60,rfl,by kernel_rfl,by kernel_rfl⟩
attribute [go_sem] X3J X3l X2Q Tryz.f60
abbrev X4B : Nat:=61
theorem X9f : Enters PP 61:=enters_of Tryz.func61 (by kernel_rfl) rfl
def X0F : List (Nat × (List Nat × List Nat × List Nat)):=[]
def X1g : List Nat:=[0,1,2,4,5,6,8,13,24]
noncomputable def X1J : Code:=(Tryz.f61.body).getD .skip
theorem Y1N : Txt PP X4B Tryz.f61 X1J X0F:=⟨X9f,Tryz.func61,rfl,by kernel_rfl,by kernel_rfl⟩
attribute [go_sem] X1J X1g X0F Tryz.f61
abbrev Q6i : Nat:=62
theorem X3x : Enters PP 62:=enters_of Tryz.func62 (by kernel_rfl) rfl
def Q4M : List (Nat × (List Nat × List Nat × List Nat)):=[(1,[0,1,2,3,4,6,7,8,9,10,13,14,15,16,17,18,19,20,5,11,12,21,22,23],[],[])]
def Q4R : List Nat:=[0,1,4]
noncomputable def Q4W : Code:=(Tryz.f62.body).getD .skip
theorem X5n : Txt PP Q6i Tryz.f62 Q4W Q4M:=⟨X3x,Tryz.func62,rfl,by kernel_rfl,by kernel_rfl⟩
attribute [go_sem] Q4W Q4R Q4M Tryz.f62
abbrev Q5h : Nat:=63
theorem X2e : Enters PP 63:=enters_of Tryz.func63 (by kernel_rfl) rfl
def Q3Z : List (Nat × (List Nat × List Nat × List Nat)):=[(1,[0,1,2,3,4,5,6,7,9,10,11,12,13,14,15,16,8,17,18,19],[],[])]
def Q4i : List Nat:=[0,1,4]
noncomputable def Q4q : Code:=(Tryz.f63.body).getD .skip
theorem X4a : Txt PP Q5h Tryz.f63 Q4q Q3Z:=⟨X2e,Tryz.func63,rfl,by kernel_rfl,by kernel_rfl⟩
attribute [go_sem] Q4q Q4i Q3Z Tryz.f63
abbrev Q4D : Nat:=64
theorem X0a : Enters PP 64:=enters_of Tryz.func64 (by kernel_rfl) rfl
def Q3x : List (Nat × (List Nat × List Nat × List Nat)):=[]
def Q3E : List Nat:=[0,1,2,6]
noncomputable def Q3L : Code:=(Tryz.f64.body).getD .skip
theorem X2t : Txt PP Q4D Tryz.f64 Q3L Q3x:=⟨X0a,Tryz.func64,rfl,by kernel_rfl,by kernel_rfl⟩
attribute [go_sem] Q3L Q3E Q3x Tryz.f64
abbrev Q1s : Nat:=65
theorem Q6A : Enters PP 65:=enters_of Tryz.func65 (by kernel_rfl) rfl
def Q2h : List (Nat × (List Nat × List Nat × List Nat)):=[]
def Q0r : List Nat:=[0,2,4]
noncomputable def Q2s : Code:=(Tryz.f65.body).getD .skip
theorem Q0w : Txt PP Q1s Tryz.f65 Q2s Q2h:=⟨Q6A,Tryz.func65,rfl,by kernel_rfl,by kernel_rfl⟩
attribute [go_sem] Q2s Q0r Q2h Tryz.f65
abbrev Q9D : Nat:=66
theorem X6t : Enters PP 66:=enters_of Tryz.func66 (by kernel_rfl) rfl
def Q6Z : List (Nat × (List Nat × List Nat × List Nat)):=[]
def Q7r : List Nat:=[0,1,2,3,4,9,15]
noncomputable def Q7K : Code:=(Tryz.f66.body).getD .skip
theorem X8s : Txt PP Q9D Tryz.f66 Q7K Q6Z:=⟨X6t,Tryz.func66,rfl,by kernel_rfl,by kernel_rfl⟩
attribute [go_sem] Q7K Q7r Q6Z Tryz.f66
attribute [go_sem] Tryz.f67
attribute [go_sem] Tryz.f68
abbrev Q5u : Nat:=69
theorem X7O : Enters PP 69:=enters_of Tryz.func69 (by kernel_rfl) rfl
def Q8q : List (Nat × (List Nat × List Nat × List Nat)):=[]
def Q8G : List Nat:=[0,1,4,5]
noncomputable def Q9a : Code:=(Tryz.f69.body).getD .skip
theorem X9m : Txt PP Q5u Tryz.f69 Q9a Q8q:=⟨X7O,Tryz.func69,rfl,by kernel_rfl,by kernel_rfl⟩
attribute [go_sem] Q9a Q8G Q8q Tryz.f69
attribute [go_sem] Tryz.f70
abbrev X8A : Nat:=71
theorem Y2F : Enters PP 71:=enters_of Tryz.func71 (by kernel_rfl) rfl
def X5y : List (Nat × (List Nat × List Nat × List Nat)):=[]
def X5D : List Nat:=[0,1,2,5]
noncomputable def X5N : Code:=(Tryz.f71.body).getD .skip
theorem Y3V : Txt PP X8A Tryz.f71 X5N X5y:=⟨Y2F,Tryz.func71,rfl,by kernel_rfl,by kernel_rfl⟩
attribute [go_sem] X5N X5D X5y Tryz.f71
abbrev Q5t : Nat:=72
theorem X7J : Enters PP 72:=enters_of Tryz.func72 (by kernel_rfl) rfl
def Q8l : List (Nat × (List Nat × List Nat × List Nat)):=[]
def Q8B : List Nat:=[0,1,2,3,4,5,7,8,9,14,23,24,25,26,38,43]
noncomputable def Q8V : Code:=(Tryz.f72.body).getD .skip
theorem X9h : Txt PP Q5t Tryz.f72 Q8V Q8l:=⟨X7J,Tryz.func72,rfl,by kernel_rfl,by kernel_rfl⟩
attribute [go_sem] Q8V Q8B Q8l Tryz.f72
abbrev X4v : Nat:=73
theorem X8W : Enters PP 73:=enters_of Tryz.func73 (by kernel_rfl) rfl
def X0w : List (Nat × (List Nat × List Nat × List Nat)):=[]
def X0Z : List Nat:=[0,1,2,3,4,12]
noncomputable def X1A : Code:=(Tryz.f73.body).getD .skip
theorem Y1G : Txt PP X4v Tryz.f73 X1A X0w:=⟨X8W,Tryz.func73,rfl,by kernel_rfl,by kernel_rfl⟩
attribute [go_sem] X1A X0Z X0w Tryz.f73
abbrev X5Z : Nat:=74
theorem Y1c : Enters PP 74:=enters_of Tryz.func74 (by kernel_rfl) rfl
def X2V : List (Nat × (List Nat × List Nat × List Nat)):=[]
def X3n : List Nat:=[0,2,3,4,5,6,10,11,12,13,26]
noncomputable def X3O : Code:=(Tryz.f74.body).getD .skip
theorem Y2X : Txt PP X5Z Tryz.f74 X3O X2V:=⟨Y1c,Tryz.func74,rfl,by kernel_rfl,by kernel_rfl⟩
attribute [go_sem] X3O X3n X2V Tryz.f74
abbrev Q6h : Nat:=75
theorem Y3H : Enters PP 75:=enters_of Tryz.func75 (by kernel_rfl) rfl
def X7p : List (Nat × (List Nat × List Nat × List Nat)):=[]
def Q6v : List Nat:=[0,1,4,10]
noncomputable def X7Y : Code:=(Tryz.f75.body).getD .skip
theorem X5m : Txt PP Q6h Tryz.f75 X7Y X7p:=⟨Y3H,Tryz.func75,rfl,by kernel_rfl,by kernel_rfl⟩
attribute [go_sem] X7Y Q6v X7p Tryz.f75
abbrev X4A : Nat:=76
theorem X9d : Enters PP 76:=enters_of Tryz.func76 (by kernel_rfl) rfl
def X0D : List (Nat × (List Nat × List Nat × List Nat)):=[]
def X1f : List Nat:=[0,2,3,4,5,6,10,11,12,13,18]
noncomputable def X1H : Code:=(Tryz.f76.body).getD .skip
theorem Y1M : Txt PP X4A Tryz.f76 X1H X0D:=⟨X9d,Tryz.func76,rfl,by kernel_rfl,by kernel_rfl⟩
attribute [go_sem] X1H X1f X0D Tryz.f76
abbrev Q6j : Nat:=77
theorem X3y : Enters PP 77:=enters_of Tryz.func77 (by kernel_rfl) rfl
def Q4N : List (Nat × (List Nat × List Nat × List Nat)):=[(1,[0,1,2,3,4,5,6,7,8,9,10,11,12,13,14,15,16,17,18,19,20,21,22,23,24,25],[34,7],[])]
def Q4S : List Nat:=[0,1,2,6,7,8,9,10,11,50,51,52,58,59,60,61]
noncomputable def Q4X : Code:=(Tryz.f77.body).getD .skip
theorem X5o : Txt PP Q6j Tryz.f77 Q4X Q4N:=⟨X3y,Tryz.func77,rfl,by kernel_rfl,by kernel_rfl⟩
attribute [go_sem] Q4X Q4S Q4N Tryz.f77
abbrev Q2v : Nat:=78
theorem X2h : Enters PP 78:=enters_of Tryz.func78 (by kernel_rfl) rfl
def Q4c : List (Nat × (List Nat × List Nat × List Nat)):=[]
def Q1R : List Nat:=[0,1,4]
noncomputable def Q4t : Code:=(Tryz.f78.body).getD .skip
theorem Q5c : Txt PP Q2v Tryz.f78 Q4t Q4c:=⟨X2h,Tryz.func78,rfl,by kernel_rfl,by kernel_rfl⟩
attribute [go_sem] Q4t Q1R Q4c Tryz.f78
abbrev X4f : Nat:=79
theorem X8G : Enters PP 79:=enters_of Tryz.func79 (by kernel_rfl) rfl
def X0g : List (Nat × (List Nat × List Nat × List Nat)):=[]
def X0J : List Nat:=[0,1,2,4]
noncomputable def X1k : Code:=(Tryz.f79.body).getD .skip
theorem Y1q : Txt PP X4f Tryz.f79 X1k X0g:=⟨X8G,Tryz.func79,rfl,by kernel_rfl,by kernel_rfl⟩
attribute [go_sem] X1k X0J X0g Tryz.f79
abbrev X4l : Nat:=80
theorem X8M : Enters PP 80:=enters_of Tryz.func80 (by kernel_rfl) rfl
def X0m : List (Nat × (List Nat × List Nat × List Nat)):=[(4,[0,1,2,3,4,5,6,7,8,9,10,11],[6],[]),(5,[0,1,2,3,4,5,6,7,8,9,10,11],[7],[])]
def X0P : List Nat:=[0,1,2,3,4,5,6,7,8,16]
noncomputable def X1q : Code:=(Tryz.f80.body).getD .skip
theorem Y1w : Txt PP X4l Tryz.f80 X1q X0m:=⟨X8M,Tryz.func80,rfl,by kernel_rfl,by kernel_rfl⟩
attribute [go_sem] X1q X0P X0m Tryz.f80
abbrev Q9s : Nat:=81
theorem X6i : Enters PP 81:=enters_of Tryz.func81 (by kernel_rfl) rfl
def Q6O : List (Nat × (List Nat × List Nat × List Nat)):=[]
def Q7g : List Nat:=[0,1,4,6,10,11,12,13,18]
noncomputable def Q7z : Code:=(Tryz.f81.body).getD .skip
theorem X8h : Txt PP Q9s Tryz.f81 Q7z Q6O:=⟨X6i,Tryz.func81,rfl,by kernel_rfl,by kernel_rfl⟩
attribute [go_sem] Q7z Q7g Q6O Tryz.f81
abbrev X1O : Nat:=82
theorem X7M : Enters PP 82:=enters_of Tryz.func82 (by kernel_rfl) rfl
def Q8o : List (Nat × (List Nat × List Nat × List Nat)):=[]
def Q8E : List Nat:=[0,1,2,6,7,8,9,10,31,36,40,41,42,43,49]
noncomputable def Q8Y : Code:=(Tryz.f82.body).getD .skip
theorem X9k : Txt PP X1O Tryz.f82 Q8Y Q8o:=⟨X7M,Tryz.func82,rfl,by kernel_rfl,by kernel_rfl⟩
attribute [go_sem] Q8Y Q8E Q8o Tryz.f82
abbrev Q9p : Nat:=83
theorem X6f : Enters PP 83:=enters_of Tryz.func83 (by kernel_rfl) rfl
def Q6L : List (Nat × (List Nat × List Nat × List Nat)):=[(7,[0,1,2,3,4,5,6,7,8,9,10,11,12],[9],[])]
def Q7d : List Nat:=[0,1,4,5,6,7,8,9,14,15,16,17,26,68]
noncomputable def Q7w : Code:=(Tryz.f83.body).getD .skip
theorem X8e : Txt PP Q9p Tryz.f83 Q7w Q6L:=⟨X6f,Tryz.func83,rfl,by kernel_rfl,by kernel_rfl⟩
attribute [go_sem] Q7w Q7d Q6L Tryz.f83
abbrev Q9o : Nat:=84
theorem X6e : Enters PP 84:=enters_of Tryz.func84 (by kernel_rfl) rfl
def Q7c : List Nat:=[0,1,2,6,7,8,26,27,28,56,57,58,62]
noncomputable def Q7v : Code:=(Tryz.f84.body).getD .skip
attribute [go_sem] Q7v Q7c Tryz.f84
abbrev X5T : Nat:=85
theorem Y0T : Enters PP 85:=enters_of Tryz.func85 (by kernel_rfl) rfl
def X2M : List (Nat × (List Nat × List Nat × List Nat)):=[]
def X3h : List Nat:=[0,1,2,31]
noncomputable def X3F : Code:=(Tryz.f85.body).getD .skip
theorem Y2R : Txt PP X5T Tryz.f85 X3F X2M:=⟨Y0T,Tryz.func85,rfl,by kernel_rfl,by kernel_rfl⟩
attribute [go_sem] X3F X3h X2M Tryz.f85
abbrev Q9r : Nat:=86
theorem X6h : Enters PP 86:=enters_of Tryz.func86 (by kernel_rfl) rfl
def Q6N : List (Nat × (List Nat × List Nat × List Nat)):=[]
def Q7f : List Nat:=[0,1,2,6,7,8,15,19,20,21,28]
noncomputable def Q7y : Code:=(Tryz.f86.body).getD .skip
theorem X8g : Txt PP Q9r Tryz.f86 Q7y Q6N:=⟨X6h,Tryz.func86,rfl,by kernel_rfl,by kernel_rfl⟩
attribute [go_sem] Q7y Q7f Q6N Tryz.f86
abbrev Q9y : Nat:=87
theorem X6o : Enters PP 87:=enters_of Tryz.func87 (by kernel_rfl) rfl
def Q6U : List (Nat × (List Nat × List Nat × List Nat)):=[]
def Q7m : List Nat:=[0,2,4,8]
noncomputable def Q7F : Code:=(Tryz.f87.body).getD .skip
theorem X8n : Txt PP Q9y Tryz.f87 Q7F Q6U:=⟨X6o,Tryz.func87,rfl,by kernel_rfl,by kernel_rfl⟩
attribute [go_sem] Q7F Q7m Q6U Tryz.f87
abbrev Q0M : Nat:=88
theorem Q3e : Enters PP 88:=enters_of Tryz.func88 (by kernel_rfl) rfl
def Q1g : List (Nat × (List Nat × List Nat × List Nat)):=[]
def Q1h : List Nat:=[0,1,4]
noncomputable def Q1i : Code:=(Tryz.f88.body).getD .skip
theorem Q3o : Txt PP Q0M Tryz.f88 Q1i Q1g:=⟨Q3e,Tryz.func88,rfl,by kernel_rfl,by kernel_rfl⟩
attribute [go_sem] Q1i Q1h Q1g Tryz.f88
abbrev Q1V : Nat:=89
theorem Q9W : Enters PP 89:=enters_of Tryz.func89 (by kernel_rfl) rfl
def Q3u : List (Nat × (List Nat × List Nat × List Nat)):=[]
def Q3B : List Nat:=[0,2]
noncomputable def Q3H : Code:=(Tryz.f89.body).getD .skip
theorem X2q : Txt PP Q1V Tryz.f89 Q3H Q3u:=⟨Q9W,Tryz.func89,rfl,by kernel_rfl,by kernel_rfl⟩
attribute [go_sem] Q3H Q3B Q3u Tryz.f89
abbrev X1R : Nat:=90
theorem X7S : Enters PP 90:=enters_of Tryz.func90 (by kernel_rfl) rfl
def Q8u : List (Nat × (List Nat × List Nat × List Nat)):=[]
def Q8K : List Nat:=[0,2,4]
noncomputable def Q9e : Code:=(Tryz.f90.body).getD .skip
theorem X9p : Txt PP X1R Tryz.f90 Q9e Q8u:=⟨X7S,Tryz.func90,rfl,by kernel_rfl,by kernel_rfl⟩
attribute [go_sem] Q9e Q8K Q8u Tryz.f90
abbrev Q5l : Nat:=91
theorem X2j : Enters PP 91:=enters_of Tryz.func91 (by kernel_rfl) rfl
def Q4e : List (Nat × (List Nat × List Nat × List Nat)):=[]
def Q4l : List Nat:=[0,1,2,3,8]
noncomputable def Q4v : Code:=(Tryz.f91.body).getD .skip
theorem X4d : Txt PP Q5l Tryz.f91 Q4v Q4e:=⟨X2j,Tryz.func91,rfl,by kernel_rfl,by kernel_rfl⟩
attribute [go_sem] Q4v Q4l Q4e Tryz.f91
abbrev Q1G : Nat:=92
theorem Q8U : Enters PP 92:=enters_of Tryz.func92 (by kernel_rfl) rfl
def Q3b : List Nat:=[0,1,4,5,12,21,40,45]
noncomputable def Q3h : Code:=(Tryz.f92.body).getD .skip
attribute [go_sem] Q3h Q3b Tryz.f92
abbrev Q1L : Nat:=93
theorem Q4E : Enters PP 93:=enters_of Tryz.func93 (by kernel_rfl) rfl
def Q1C : List (Nat × (List Nat × List Nat × List Nat)):=[]
def Q1D : List Nat:=[0,1,4]
noncomputable def Q1E : Code:=(Tryz.f93.body).getD .skip
theorem Q5s : Txt PP Q1L Tryz.f93 Q1E Q1C:=⟨Q4E,Tryz.func93,rfl,by kernel_rfl,by kernel_rfl⟩
attribute [go_sem] Q1E Q1D Q1C Tryz.f93
abbrev Q4z : Nat:=94
theorem Q9U : Enters PP 94:=enters_of Tryz.func94 (by kernel_rfl) rfl
def Q3s : List (Nat × (List Nat × List Nat × List Nat)):=[(1,[0,1,2,3,4,5,6,7,8,9,10,11],[7],[])]
def Q3z : List Nat:=[0,1,2,6,7,8,9,23,24,25,26,48]
noncomputable def Q3F : Code:=(Tryz.f94.body).getD .skip
theorem X2o : Txt PP Q4z Tryz.f94 Q3F Q3s:=⟨Q9U,Tryz.func94,rfl,by kernel_rfl,by kernel_rfl⟩
attribute [go_sem] Q3F Q3z Q3s Tryz.f94
abbrev Q2I : Nat:=95
theorem Q6B : Enters PP 95:=enters_of Tryz.func95 (by kernel_rfl) rfl
def Q2i : List (Nat × (List Nat × List Nat × List Nat)):=[(8,[0,1,2,3,4,5,6,7,8,9,10,11,12,13,14,15,16,18,19,20,21,22,23,24,25,26,27,28,29,30,31,32,33,34,17,35,36,37],[],[])]
def Q2o : List Nat:=[0,1,4,5,6,7,8,12,13,14,15,24,26,87]
noncomputable def Q2t : Code:=(Tryz.f95.body).getD .skip
theorem Q7Y : Txt PP Q2I Tryz.f95 Q2t Q2i:=⟨Q6B,Tryz.func95,rfl,by kernel_rfl,by kernel_rfl⟩
attribute [go_sem] Q2t Q2o Q2i Tryz.f95
abbrev Q3M : Nat:=96
theorem Q8T : Enters PP 96:=enters_of Tryz.func96 (by kernel_rfl) rfl
def Q2U : List (Nat × (List Nat × List Nat × List Nat)):=[(10,[0,1,2,3,4,5,6,7],[12],[])]
def Q3a : List Nat:=[0,1,2,6,7,8,9,10,11,12,14,15,30,31,32,33,39,45,46,47,65,98,107,108,109,110,114,115,116]
noncomputable def Q3g : Code:=(Tryz.f96.body).getD .skip
theorem X0c : Txt PP Q3M Tryz.f96 Q3g Q2U:=⟨Q8T,Tryz.func96,rfl,by kernel_rfl,by kernel_rfl⟩
attribute [go_sem] Q3g Q3a Q2U Tryz.f96
abbrev Q5w : Nat:=97
theorem X7T : Enters PP 97:=enters_of Tryz.func97 (by kernel_rfl) rfl
def Q8v : List (Nat × (List Nat × List Nat × List Nat)):=[]
def Q4k : List Nat:=[0,1,4,6,9]
noncomputable def Q9f : Code:=(Tryz.f97.body).getD .skip
theorem X1L : Txt PP Q5w Tryz.f97 Q9f Q8v:=⟨X7T,Tryz.func97,rfl,by kernel_rfl,by kernel_rfl⟩
attribute [go_sem] Q9f Q4k Q8v Tryz.f97
abbrev X1S : Nat:=98
theorem X7U : Enters PP 98:=enters_of Tryz.func98 (by kernel_rfl) rfl
def Q8w : List (Nat × (List Nat × List Nat × List Nat)):=[]
def Q8L : List Nat:=[0,1,4,5,10,15,20,23,33]
noncomputable def Q9g : Code:=(Tryz.f98.body).getD .skip
theorem X9q : Txt PP X1S Tryz.f98 Q9g Q8w:=⟨X7U,Tryz.func98,rfl,by kernel_rfl,by kernel_rfl⟩
attribute [go_sem] Q9g Q8L Q8w Tryz.f98
abbrev X8z : Nat:=99
theorem Y2E : Enters PP 99:=enters_of Tryz.func99 (by kernel_rfl) rfl
def X5x : List (Nat × (List Nat × List Nat × List Nat)):=[(25,[0,2,3,4,1,5,6,7,8,9,10],[],[])]
def X5C : List Nat:=[0,1,4,5,6,7,8,9,10,11,12,13,14,15,16,17,22,27,61,78,131,142,148]
noncomputable def X5M : Code:=(Tryz.f99.body).getD .skip
theorem Y3U : Txt PP X8z Tryz.f99 X5M X5x:=⟨Y2E,Tryz.func99,rfl,by kernel_rfl,by kernel_rfl⟩
attribute [go_sem] X5M X5C X5x Tryz.f99
abbrev Q6G : Nat:=100
theorem X9e : Enters PP 100:=enters_of Tryz.func100 (by kernel_rfl) rfl
def X0E : List (Nat × (List Nat × List Nat × List Nat)):=[]
def Q5p : List Nat:=[0,1,4]
noncomputable def X1I : Code:=(Tryz.f100.body).getD .skip
theorem X3Z : Txt PP Q6G Tryz.f100 X1I X0E:=⟨X9e,Tryz.func100,rfl,by kernel_rfl,by kernel_rfl⟩
attribute [go_sem] X1I Q5p X0E Tryz.f100
abbrev Q4A : Nat:=101
theorem Q9V : Enters PP 101:=enters_of Tryz.func101 (by kernel_rfl) rfl
def Q3t : List (Nat × (List Nat × List Nat × List Nat)):=[]
def Q3A : List Nat:=[0,1,4]
noncomputable def Q3G : Code:=(Tryz.f101.body).getD .skip
theorem X2p : Txt PP Q4A Tryz.f101 Q3G Q3t:=⟨Q9V,Tryz.func101,rfl,by kernel_rfl,by kernel_rfl⟩
attribute [go_sem] Q3G Q3A Q3t Tryz.f101
abbrev Q5m : Nat:=102
theorem X2k : Enters PP 102:=enters_of Tryz.func102 (by kernel_rfl) rfl
def Q4f : List (Nat × (List Nat × List Nat × List Nat)):=[]
def Q4m : List Nat:=[0,1,2,3,4,5,19,33]
noncomputable def Q4w : Code:=(Tryz.f102.body).getD .skip
theorem X4e : Txt PP Q5m Tryz.f102 Q4w Q4f:=⟨X2k,Tryz.func102,rfl,by kernel_rfl,by kernel_rfl⟩
attribute [go_sem] Q4w Q4m Q4f Tryz.f102
abbrev Q9E : Nat:=103
theorem Y0Y : Enters PP 103:=enters_of Tryz.func103 (by kernel_rfl) rfl
def X2R : List (Nat × (List Nat × List Nat × List Nat)):=[]
def Q6u : List Nat:=[0,1,4,5,6,7,8,9,10,11,19,26,27,28,29,33,34,35,36]
noncomputable def X3K : Code:=(Tryz.f103.body).getD .skip
theorem X5P : Txt PP Q9E Tryz.f103 X3K X2R:=⟨Y0Y,Tryz.func103,rfl,by kernel_rfl,by kernel_rfl⟩
attribute [go_sem] X3K Q6u X2R Tryz.f103
abbrev Q4B : Nat:=104
theorem Q9Y : Enters PP 104:=enters_of Tryz.func104 (by kernel_rfl) rfl
def Q3v : List (Nat × (List Nat × List Nat × List Nat)):=[]
def Q3C : List Nat:=[0,1,2,3,4]
noncomputable def Q3J : Code:=(Tryz.f104.body).getD .skip
theorem X2r : Txt PP Q4B Tryz.f104 Q3J Q3v:=⟨Q9Y,Tryz.func104,rfl,by kernel_rfl,by kernel_rfl⟩
attribute [go_sem] Q3J Q3C Q3v Tryz.f104
abbrev X4t : Nat:=105
theorem X8U : Enters PP 105:=enters_of Tryz.func105 (by kernel_rfl) rfl
def X0u : List (Nat × (List Nat × List Nat × List Nat)):=[]
def X0X : List Nat:=[0,2,3,8]
noncomputable def X1y : Code:=(Tryz.f105.body).getD .skip
theorem Y1E : Txt PP X4t Tryz.f105 X1y X0u:=⟨X8U,Tryz.func105,rfl,by kernel_rfl,by kernel_rfl⟩
attribute [go_sem] X1y X0X X0u Tryz.f105
abbrev Q1t : Nat:=106
theorem Q6C : Enters PP 106:=enters_of Tryz.func106 (by kernel_rfl) rfl
def Q2j : List (Nat × (List Nat × List Nat × List Nat)):=[]
def Q1m : List Nat:=[0,1,2]
noncomputable def Q2u : Code:=(Tryz.f106.body).getD .skip
theorem Q2G : Txt PP Q1t Tryz.f106 Q2u Q2j:=⟨Q6C,Tryz.func106,rfl,by kernel_rfl,by kernel_rfl⟩
attribute [go_sem] Q2u Q1m Q2j Tryz.f106
abbrev X6a : Nat:=107
theorem Y1e : Enters PP 107:=enters_of Tryz.func107 (by kernel_rfl) rfl
def X2W : List (Nat × (List Nat × List Nat × List Nat)):=[]
def X3p : List Nat:=[0,1,2,31]
noncomputable def X3Q : Code:=(Tryz.f107.body).getD .skip
theorem Y2Y : Txt PP X6a Tryz.f107 X3Q X2W:=⟨Y1e,Tryz.func107,rfl,by kernel_rfl,by kernel_rfl⟩
attribute [go_sem] X3Q X3p X2W Tryz.f107
abbrev Q3p : Nat:=108
theorem X5c : Enters PP 108:=enters_of Tryz.func108 (by kernel_rfl) rfl
def Q5y : List (Nat × (List Nat × List Nat × List Nat)):=[]
def Q5K : List Nat:=[0,1,2,4,5,6,11]
noncomputable def Q5Y : Code:=(Tryz.f108.body).getD .skip
theorem X6v : Txt PP Q3p Tryz.f108 Q5Y Q5y:=⟨X5c,Tryz.func108,rfl,by kernel_rfl,by kernel_rfl⟩
attribute [go_sem] Q5Y Q5K Q5y Tryz.f108
abbrev Q5i : Nat:=109
theorem X2f : Enters PP 109:=enters_of Tryz.func109 (by kernel_rfl) rfl
def Q4a : List (Nat × (List Nat × List Nat × List Nat)):=[(1,[0,1,2,3,4,6,7,8,9,10,13,14,15,16,17,18,19,20,5,11,12,21,22,23],[],[])]
def Q4j : List Nat:=[0,1,4]
noncomputable def Q4r : Code:=(Tryz.f109.body).getD .skip
theorem X4b : Txt PP Q5i Tryz.f109 Q4r Q4a:=⟨X2f,Tryz.func109,rfl,by kernel_rfl,by kernel_rfl⟩
attribute [go_sem] Q4r Q4j Q4a Tryz.f109
abbrev Q3i : Nat:=110
theorem Q7U : Enters PP 110:=enters_of Tryz.func110 (by kernel_rfl) rfl
def Q2w : List (Nat × (List Nat × List Nat × List Nat)):=[]
def Q2A : List Nat:=[0,1,4,5,6,13,14,15]
noncomputable def Q2D : Code:=(Tryz.f110.body).getD .skip
theorem Q9k : Txt PP Q3i Tryz.f110 Q2D Q2w:=⟨Q7U,Tryz.func110,rfl,by kernel_rfl,by kernel_rfl⟩
attribute [go_sem] Q2D Q2A Q2w Tryz.f110
abbrev X4g : Nat:=111
theorem X8H : Enters PP 111:=enters_of Tryz.func111 (by kernel_rfl) rfl
def X0h : List (Nat × (List Nat × List Nat × List Nat)):=[]
def X0K : List Nat:=[0,2]
noncomputable def X1l : Code:=(Tryz.f111.body).getD .skip
theorem Y1r : Txt PP X4g Tryz.f111 X1l X0h:=⟨X8H,Tryz.func111,rfl,by kernel_rfl,by kernel_rfl⟩
attribute [go_sem] X1l X0K X0h Tryz.f111
abbrev X4n : Nat:=112
theorem X8O : Enters PP 112:=enters_of Tryz.func112 (by kernel_rfl) rfl
def X0o : List (Nat × (List Nat × List Nat × List Nat)):=[]
def X0R : List Nat:=[0,1,2,3,4,9,23]
noncomputable def X1s : Code:=(Tryz.f112.body).getD .skip
theorem Y1y : Txt PP X4n Tryz.f112 X1s X0o:=⟨X8O,Tryz.func112,rfl,by kernel_rfl,by kernel_rfl⟩
attribute [go_sem] X1s X0R X0o Tryz.f112
abbrev X4j : Nat:=113
theorem X8K : Enters PP 113:=enters_of Tryz.func113 (by kernel_rfl) rfl
def X0k : List (Nat × (List Nat × List Nat × List Nat)):=[]
def X0N : List Nat:=[0,1,2,6,7,8,9,16,20,26,46]
noncomputable def X1o : Code:=(Tryz.f113.body).getD .skip
theorem Y1u : Txt PP X4j Tryz.f113 X1o X0k:=⟨X8K,Tryz.func113,rfl,by kernel_rfl,by kernel_rfl⟩
attribute [go_sem] X1o X0N X0k Tryz.f113
abbrev X4p : Nat:=114
theorem X8Q : Enters PP 114:=enters_of Tryz.func114 (by kernel_rfl) rfl
def X0q : List (Nat × (List Nat × List Nat × List Nat)):=[]
def X0T : List Nat:=[0,1,4,5,6,7,8,9,10,11,19,26,27,28,29,33,34,35,36]
noncomputable def X1u : Code:=(Tryz.f114.body).getD .skip
theorem Y1A : Txt PP X4p Tryz.f114 X1u X0q:=⟨X8Q,Tryz.func114,rfl,by kernel_rfl,by kernel_rfl⟩
attribute [go_sem] X1u X0T X0q Tryz.f114
abbrev X4w : Nat:=115
theorem X8X : Enters PP 115:=enters_of Tryz.func115 (by kernel_rfl) rfl
def X0x : List (Nat × (List Nat × List Nat × List Nat)):=[(3,[0,1,2,3,4,5,6,7,8,9,10,11,13,14,15,16,17,12,18,19,20],[],[])]
def X1a : List Nat:=[0,1,2,3,4,12]
noncomputable def X1B : Code:=(Tryz.f115.body).getD .skip
theorem Y1H : Txt PP X4w Tryz.f115 X1B X0x:=⟨X8X,Tryz.func115,rfl,by kernel_rfl,by kernel_rfl⟩
attribute [go_sem] X1B X1a X0x Tryz.f115
abbrev X4k : Nat:=116
theorem X8L : Enters PP 116:=enters_of Tryz.func116 (by kernel_rfl) rfl
def X0l : List (Nat × (List Nat × List Nat × List Nat)):=[(1,[0,1,2,3,4,5,6,7,10,11,12,13,14,15,16,17,8,9,18,19,20,21],[],[])]
def X0O : List Nat:=[0,1,2,3,4]
noncomputable def X1p : Code:=(Tryz.f116.body).getD .skip
theorem Y1v : Txt PP X4k Tryz.f116 X1p X0l:=⟨X8L,Tryz.func116,rfl,by kernel_rfl,by kernel_rfl⟩
attribute [go_sem] X1p X0O X0l Tryz.f116
abbrev Q9x : Nat:=117
theorem X6n : Enters PP 117:=enters_of Tryz.func117 (by kernel_rfl) rfl
def Q6T : List (Nat × (List Nat × List Nat × List Nat)):=[]
def Q7l : List Nat:=[0,1,2]
noncomputable def Q7E : Code:=(Tryz.f117.body).getD .skip
theorem X8m : Txt PP Q9x Tryz.f117 Q7E Q6T:=⟨X6n,Tryz.func117,rfl,by kernel_rfl,by kernel_rfl⟩
attribute [go_sem] Q7E Q7l Q6T Tryz.f117
abbrev X5U : Nat:=118
theorem Y0U : Enters PP 118:=enters_of Tryz.func118 (by kernel_rfl) rfl
def X2N : List (Nat × (List Nat × List Nat × List Nat)):=[]
def X3i : List Nat:=[0,2,4,5,6,7,8,13]
noncomputable def X3G : Code:=(Tryz.f118.body).getD .skip
theorem Y2S : Txt PP X5U Tryz.f118 X3G X2N:=⟨Y0U,Tryz.func118,rfl,by kernel_rfl,by kernel_rfl⟩
attribute [go_sem] X3G X3i X2N Tryz.f118
abbrev X4q : Nat:=119
theorem X8R : Enters PP 119:=enters_of Tryz.func119 (by kernel_rfl) rfl
def X0r : List (Nat × (List Nat × List Nat × List Nat)):=[]
def X0U : List Nat:=[0,1,4,5,6,7,9,12,21,29]
noncomputable def X1v : Code:=(Tryz.f119.body).getD .skip
theorem Y1B : Txt PP X4q Tryz.f119 X1v X0r:=⟨X8R,Tryz.func119,rfl,by kernel_rfl,by kernel_rfl⟩
attribute [go_sem] X1v X0U X0r Tryz.f119
abbrev X4i : Nat:=120
theorem X8J : Enters PP 120:=enters_of Tryz.func120 (by kernel_rfl) rfl
def X0j : List (Nat × (List Nat × List Nat × List Nat)):=[(1,[0,1,2,3,4,5,6,7,8,9,10,11,12,14,15,16,17,13,18,19,20],[],[])]
def X0M : List Nat:=[0,1,2,3,4]
noncomputable def X1n : Code:=(Tryz.f120.body).getD .skip
theorem Y1t : Txt PP X4i Tryz.f120 X1n X0j:=⟨X8J,Tryz.func120,rfl,by kernel_rfl,by kernel_rfl⟩
attribute [go_sem] X1n X0M X0j Tryz.f120
abbrev X5V : Nat:=121
theorem Y0V : Enters PP 121:=enters_of Tryz.func121 (by kernel_rfl) rfl
def X2O : List (Nat × (List Nat × List Nat × List Nat)):=[]
def X3j : List Nat:=[0,2,3,6]
noncomputable def X3H : Code:=(Tryz.f121.body).getD .skip
theorem Y2T : Txt PP X5V Tryz.f121 X3H X2O:=⟨Y0V,Tryz.func121,rfl,by kernel_rfl,by kernel_rfl⟩
attribute [go_sem] X3H X3j X2O Tryz.f121
abbrev Q1F : Nat:=122
theorem Q4n : Enters PP 122:=enters_of Tryz.func122 (by kernel_rfl) rfl
def Q1w : List (Nat × (List Nat × List Nat × List Nat)):=[]
def Q1x : List Nat:=[0,1,4,5,7,8,9,16]
noncomputable def Q1y : Code:=(Tryz.f122.body).getD .skip
theorem Q4F : Txt PP Q1F Tryz.f122 Q1y Q1w:=⟨Q4n,Tryz.func122,rfl,by kernel_rfl,by kernel_rfl⟩
attribute [go_sem] Q1y Q1x Q1w Tryz.f122
abbrev X1Q : Nat:=123
theorem X7R : Enters PP 123:=enters_of Tryz.func123 (by kernel_rfl) rfl
def Q8t : List (Nat × (List Nat × List Nat × List Nat)):=[]
def Q8J : List Nat:=[0,2,3,5]
noncomputable def Q9d : Code:=(Tryz.f123.body).getD .skip
theorem X9o : Txt PP X1Q Tryz.f123 Q9d Q8t:=⟨X7R,Tryz.func123,rfl,by kernel_rfl,by kernel_rfl⟩
attribute [go_sem] Q9d Q8J Q8t Tryz.f123
abbrev Q2H : Nat:=124
theorem Q6z : Enters PP 124:=enters_of Tryz.func124 (by kernel_rfl) rfl
def Q2g : List (Nat × (List Nat × List Nat × List Nat)):=[]
def Q2n : List Nat:=[0,1,4,5,7,8,9,16]
noncomputable def Q2r : Code:=(Tryz.f124.body).getD .skip
theorem Q7X : Txt PP Q2H Tryz.f124 Q2r Q2g:=⟨Q6z,Tryz.func124,rfl,by kernel_rfl,by kernel_rfl⟩
attribute [go_sem] Q2r Q2n Q2g Tryz.f124
abbrev Q4C : Nat:=125
theorem Q9Z : Enters PP 125:=enters_of Tryz.func125 (by kernel_rfl) rfl
def Q3w : List (Nat × (List Nat × List Nat × List Nat)):=[]
def Q3D : List Nat:=[0,1,2,3,4]
noncomputable def Q3K : Code:=(Tryz.f125.body).getD .skip
theorem X2s : Txt PP Q4C Tryz.f125 Q3K Q3w:=⟨Q9Z,Tryz.func125,rfl,by kernel_rfl,by kernel_rfl⟩
attribute [go_sem] Q3K Q3D Q3w Tryz.f125
abbrev Q3k : Nat:=126
theorem Q7W : Enters PP 126:=enters_of Tryz.func126 (by kernel_rfl) rfl
def Q2y : List (Nat × (List Nat × List Nat × List Nat)):=[]
def Q2C : List Nat:=[0,1,2,3,4,5,15,21]
noncomputable def Q2F : Code:=(Tryz.f126.body).getD .skip
theorem Q9m : Txt PP Q3k Tryz.f126 Q2F Q2y:=⟨Q7W,Tryz.func126,rfl,by kernel_rfl,by kernel_rfl⟩
attribute [go_sem] Q2F Q2C Q2y Tryz.f126
abbrev Q3j : Nat:=127
theorem Q7V : Enters PP 127:=enters_of Tryz.func127 (by kernel_rfl) rfl
def Q2x : List (Nat × (List Nat × List Nat × List Nat)):=[]
def Q2B : List Nat:=[0,1,2,3,4,5]
noncomputable def Q2E : Code:=(Tryz.f127.body).getD .skip
theorem Q9l : Txt PP Q3j Tryz.f127 Q2E Q2x:=⟨Q7V,Tryz.func127,rfl,by kernel_rfl,by kernel_rfl⟩
attribute [go_sem] Q2E Q2B Q2x Tryz.f127
abbrev Q7R : Nat:=128
theorem X5h : Enters PP 128:=enters_of Tryz.func128 (by kernel_rfl) rfl
def Q5D : List (Nat × (List Nat × List Nat × List Nat)):=[]
def Q5O : List Nat:=[0,1,4,5,6,7,8,9,17]
noncomputable def Q6d : Code:=(Tryz.f128.body).getD .skip
theorem X6z : Txt PP Q7R Tryz.f128 Q6d Q5D:=⟨X5h,Tryz.func128,rfl,by kernel_rfl,by kernel_rfl⟩
attribute [go_sem] Q6d Q5O Q5D Tryz.f128
abbrev X8x : Nat:=129
theorem Y2C : Enters PP 129:=enters_of Tryz.func129 (by kernel_rfl) rfl
def X5v : List (Nat × (List Nat × List Nat × List Nat)):=[]
def X5A : List Nat:=[0,1,2,6,7,8,9,10,11,12,13,14,29]
noncomputable def X5K : Code:=(Tryz.f129.body).getD .skip
theorem Y3S : Txt PP X8x Tryz.f129 X5K X5v:=⟨Y2C,Tryz.func129,rfl,by kernel_rfl,by kernel_rfl⟩
attribute [go_sem] X5K X5A X5v Tryz.f129
abbrev X8B : Nat:=130
theorem Y2G : Enters PP 130:=enters_of Tryz.func130 (by kernel_rfl) rfl
def X5z : List (Nat × (List Nat × List Nat × List Nat)):=[]
def X5E : List Nat:=[0,1,4,5,6,7,8,9,10,11]
noncomputable def X5O : Code:=(Tryz.f130.body).getD .skip
theorem Y3W : Txt PP X8B Tryz.f130 X5O X5z:=⟨Y2G,Tryz.func130,rfl,by kernel_rfl,by kernel_rfl⟩
attribute [go_sem] X5O X5E X5z Tryz.f130
abbrev X2u : Nat:=131
theorem Y2B : Enters PP 131:=enters_of Tryz.func131 (by kernel_rfl) rfl
def X5u : List (Nat × (List Nat × List Nat × List Nat)):=[]
def Q8I : List Nat:=[0,2,14]
noncomputable def X5J : Code:=(Tryz.f131.body).getD .skip
theorem X8t : Txt PP X2u Tryz.f131 X5J X5u:=⟨Y2B,Tryz.func131,rfl,by kernel_rfl,by kernel_rfl⟩
attribute [go_sem] X5J Q8I X5u Tryz.f131
abbrev X8y : Nat:=132
theorem Y2D : Enters PP 132:=enters_of Tryz.func132 (by kernel_rfl) rfl
def X5w : List (Nat × (List Nat × List Nat × List Nat)):=[]
def X5B : List Nat:=[0,1,4,5,6,7,8,13,20,21,22,23,33]
noncomputable def X5L : Code:=(Tryz.f132.body).getD .skip
theorem Y3T : Txt PP X8y Tryz.f132 X5L X5w:=⟨Y2D,Tryz.func132,rfl,by kernel_rfl,by kernel_rfl⟩
attribute [go_sem] X5L X5B X5w Tryz.f132
abbrev X5Y : Nat:=133
theorem Y1b : Enters PP 133:=enters_of Tryz.func133 (by kernel_rfl) rfl
def X2U : List (Nat × (List Nat × List Nat × List Nat)):=[]
def X3m : List Nat:=[0,1,4,5,6,7,8,12,13,14,15,25,33]
noncomputable def X3N : Code:=(Tryz.f133.body).getD .skip
theorem Y2W : Txt PP X5Y Tryz.f133 X3N X2U:=⟨Y1b,Tryz.func133,rfl,by kernel_rfl,by kernel_rfl⟩
attribute [go_sem] X3N X3m X2U Tryz.f133
abbrev Q2Q : Nat:=134
theorem X7P : Enters PP 134:=enters_of Tryz.func134 (by kernel_rfl) rfl
def Q8r : List (Nat × (List Nat × List Nat × List Nat)):=[]
def Q2m : List Nat:=[0,2,3,15]
noncomputable def Q9b : Code:=(Tryz.f134.body).getD .skip
theorem Q5r : Txt PP Q2Q Tryz.f134 Q9b Q8r:=⟨X7P,Tryz.func134,rfl,by kernel_rfl,by kernel_rfl⟩
attribute [go_sem] Q9b Q2m Q8r Tryz.f134
abbrev Q9F : Nat:=135
theorem X6u : Enters PP 135:=enters_of Tryz.func135 (by kernel_rfl) rfl
def Q7a : List (Nat × (List Nat × List Nat × List Nat)):=[]
def Q7s : List Nat:=[0,1,2]
noncomputable def Q7L : Code:=(Tryz.f135.body).getD .skip
theorem X8u : Txt PP Q9F Tryz.f135 Q7L Q7a:=⟨X6u,Tryz.func135,rfl,by kernel_rfl,by kernel_rfl⟩
attribute [go_sem] Q7L Q7s Q7a Tryz.f135
abbrev X6b : Nat:=136
theorem Y1f : Enters PP 136:=enters_of Tryz.func136 (by kernel_rfl) rfl
def X2X : List (Nat × (List Nat × List Nat × List Nat)):=[]
def X3q : List Nat:=[0,2,19]
noncomputable def X3R : Code:=(Tryz.f136.body).getD .skip
theorem Y2Z : Txt PP X6b Tryz.f136 X3R X2X:=⟨Y1f,Tryz.func136,rfl,by kernel_rfl,by kernel_rfl⟩
attribute [go_sem] X3R X3q X2X Tryz.f136
abbrev X4u : Nat:=137
theorem X8V : Enters PP 137:=enters_of Tryz.func137 (by kernel_rfl) rfl
def X0v : List (Nat × (List Nat × List Nat × List Nat)):=[]
def X0Y : List Nat:=[0,1,4,5,6,7,8,23,30,40]
noncomputable def X1z : Code:=(Tryz.f137.body).getD .skip
theorem Y1F : Txt PP X4u Tryz.f137 X1z X0v:=⟨X8V,Tryz.func137,rfl,by kernel_rfl,by kernel_rfl⟩
attribute [go_sem] X1z X0Y X0v Tryz.f137
abbrev X4s : Nat:=138
theorem X8T : Enters PP 138:=enters_of Tryz.func138 (by kernel_rfl) rfl
def X0t : List (Nat × (List Nat × List Nat × List Nat)):=[]
def X0W : List Nat:=[0,1,4,5,10,15,20,31,40]
noncomputable def X1x : Code:=(Tryz.f138.body).getD .skip
theorem Y1D : Txt PP X4s Tryz.f138 X1x X0t:=⟨X8T,Tryz.func138,rfl,by kernel_rfl,by kernel_rfl⟩
attribute [go_sem] X1x X0W X0t Tryz.f138
abbrev X4o : Nat:=139
theorem X8P : Enters PP 139:=enters_of Tryz.func139 (by kernel_rfl) rfl
def X0p : List (Nat × (List Nat × List Nat × List Nat)):=[]
def X0S : List Nat:=[0,1,4,5,6,7,8,11,12,13,24,32]
noncomputable def X1t : Code:=(Tryz.f139.body).getD .skip
theorem Y1z : Txt PP X4o Tryz.f139 X1t X0p:=⟨X8P,Tryz.func139,rfl,by kernel_rfl,by kernel_rfl⟩
attribute [go_sem] X1t X0S X0p Tryz.f139
abbrev X4r : Nat:=140
theorem X8S : Enters PP 140:=enters_of Tryz.func140 (by kernel_rfl) rfl
def X0s : List (Nat × (List Nat × List Nat × List Nat)):=[]
def X0V : List Nat:=[0,1,4,5,6,7,8,9,10,11,14,34,48]
noncomputable def X1w : Code:=(Tryz.f140.body).getD .skip
theorem Y1C : Txt PP X4r Tryz.f140 X1w X0s:=⟨X8S,Tryz.func140,rfl,by kernel_rfl,by kernel_rfl⟩
attribute [go_sem] X1w X0V X0s Tryz.f140
abbrev X4m : Nat:=141
theorem X8N : Enters PP 141:=enters_of Tryz.func141 (by kernel_rfl) rfl
def X0n : List (Nat × (List Nat × List Nat × List Nat)):=[]
def X0Q : List Nat:=[0,1,2,3,4,5,13,21]
noncomputable def X1r : Code:=(Tryz.f141.body).getD .skip
theorem Y1x : Txt PP X4m Tryz.f141 X1r X0n:=⟨X8N,Tryz.func141,rfl,by kernel_rfl,by kernel_rfl⟩
attribute [go_sem] X1r X0Q X0n Tryz.f141
abbrev Q9w : Nat:=142
theorem X6m : Enters PP 142:=enters_of Tryz.func142 (by kernel_rfl) rfl
def Q6S : List (Nat × (List Nat × List Nat × List Nat)):=[]
def Q7k : List Nat:=[0,2,3,4,5,14,19]
noncomputable def Q7D : Code:=(Tryz.f142.body).getD .skip
theorem X8l : Txt PP Q9w Tryz.f142 Q7D Q6S:=⟨X6m,Tryz.func142,rfl,by kernel_rfl,by kernel_rfl⟩
attribute [go_sem] Q7D Q7k Q6S Tryz.f142
abbrev Q9u : Nat:=143
theorem X6k : Enters PP 143:=enters_of Tryz.func143 (by kernel_rfl) rfl
def Q6Q : List (Nat × (List Nat × List Nat × List Nat)):=[]
def Q7i : List Nat:=[0,1,4,5,7]
noncomputable def Q7B : Code:=(Tryz.f143.body).getD .skip
theorem X8j : Txt PP Q9u Tryz.f143 Q7B Q6Q:=⟨X6k,Tryz.func143,rfl,by kernel_rfl,by kernel_rfl⟩
attribute [go_sem] Q7B Q7i Q6Q Tryz.f143
abbrev Q2R : Nat:=144
theorem X7V : Enters PP 144:=enters_of Tryz.func144 (by kernel_rfl) rfl
def Q8x : List (Nat × (List Nat × List Nat × List Nat)):=[]
def Q8M : List Nat:=[0,2]
noncomputable def Q9h : Code:=(Tryz.f144.body).getD .skip
theorem X9r : Txt PP Q2R Tryz.f144 Q9h Q8x:=⟨X7V,Tryz.func144,rfl,by kernel_rfl,by kernel_rfl⟩
attribute [go_sem] Q9h Q8M Q8x Tryz.f144
abbrev Q9t : Nat:=145
theorem X6j : Enters PP 145:=enters_of Tryz.func145 (by kernel_rfl) rfl
def Q6P : List (Nat × (List Nat × List Nat × List Nat)):=[]
def Q7h : List Nat:=[0,1,4,5,6,7,8,9,17]
noncomputable def Q7A : Code:=(Tryz.f145.body).getD .skip
theorem X8i : Txt PP Q9t Tryz.f145 Q7A Q6P:=⟨X6j,Tryz.func145,rfl,by kernel_rfl,by kernel_rfl⟩
attribute [go_sem] Q7A Q7h Q6P Tryz.f145
abbrev Q9v : Nat:=146
theorem X6l : Enters PP 146:=enters_of Tryz.func146 (by kernel_rfl) rfl
def Q6R : List (Nat × (List Nat × List Nat × List Nat)):=[]
def Q7j : List Nat:=[0,1,4,5,6,7,8,9,20,46,58]
noncomputable def Q7C : Code:=(Tryz.f146.body).getD .skip
theorem X8k : Txt PP Q9v Tryz.f146 Q7C Q6R:=⟨X6l,Tryz.func146,rfl,by kernel_rfl,by kernel_rfl⟩
attribute [go_sem] Q7C Q7j Q6R Tryz.f146
end Go.Proofs.YtchlpclgkhggeaaGreat